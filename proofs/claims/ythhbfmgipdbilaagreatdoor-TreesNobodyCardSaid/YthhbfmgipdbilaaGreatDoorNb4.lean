/- Parts of the proof: an abstract interpreter of the loaded program and its soundness, printed functions, the law's own texts; part 4. No condition. -/
import Derived.Test.YthhbfmgipdbilaaGreatDoorNb3
namespace Go.Proofs.YthhbfmgipdbilaaGreatDoor
open Go Go.Abs
set_option maxRecDepth 100000
def z3o:(Int×Int×ByteArray×Sl3×Int×AH)→Value
 | (r0,r1,r2,r3,r4,_)=>(Value.tuple #[(Value.agg #[(Value.int .i64 r0),(Value.int .i64 r1),(Value.string r2),(Sl3.v r3)]),(Value.int .i64 r4)])
def z44 (_:AH):(Int×Int×ByteArray×Sl3×Int×AH)→AH:=fun r=>r.2.2.2.2.2
noncomputable def B42:Code:=(Tryz.f42.body).getD .skip
noncomputable def z48 (_L:LC) (m:Nat) (a0:Option Addr) (_a1_0:Int) (_a1_1:ByteArray) (_a1_2:Bool) (_a1_3:Sl3) (_a1_4:Int) (_a1_5:Sl3) (_a1_6 _a1_7:Int) (_a1_8:ByteArray) (_a1_9 _a1_10:Sl3) (a1_11 _x1:Sl3) (_x2_0 _x2_1:Int) (_x2_2:ByteArray) (_x2_3:Sl3):(AH×Sl3×Int)→Option (Lp (AH×Sl3×Int) (Int×Int×ByteArray×Sl3×Int×AH)):=fun (H5,v9_6,v30_7) =>
 if v30_7<(a1_11.n:Int) then
  Option.bind (idxA 1 a1_11 v30_7) fun p8 =>
  Option.bind (rd (deI .i64) H5 p8) fun x9 =>
  Option.bind a0 fun q10 =>
  Option.bind (rd deSl H5 (Addr.add q10 3)) fun x11 =>
  Option.bind (idxA 16 x11 x9) fun p12 =>
  Option.bind (rd (deI .i64) H5 (Addr.add (Addr.add p12 12) 0)) fun x13_0 =>
  Option.bind (rd (deI .i64) H5 (Addr.add (Addr.add p12 12) 1)) fun x13_1 =>
  Option.bind (rd deS H5 (Addr.add (Addr.add p12 12) 2)) fun x13_2 =>
  Option.bind (rd deSl H5 (Addr.add (Addr.add p12 12) 3)) fun x13_3 =>
  Option.bind (newR 59 1 #[(Value.int .i64 x13_0),(Value.int .i64 x13_1),(Value.string x13_2),(Sl3.v x13_3)] H5) fun (s14,H15) =>
  Option.bind (appS m 59 4 56 H15 v9_6 s14) fun (s16,H17) =>
  some (.next (H17,s16,(IntKind.i64.wrap (v30_7+1))))
 else
  some (.brk (H5,v9_6,v30_7))
def zdo (_L:LC) (_m:Nat) (a0:Option Addr) (a1_0:Int) (a1_1:ByteArray) (a1_2:Bool) (a1_3:Sl3) (a1_4:Int) (a1_5:Sl3) (a1_6 a1_7:Int) (a1_8:ByteArray) (a1_9 a1_10:Sl3) (a1_11 x1:Sl3) (x2_0 x2_1:Int) (x2_2:ByteArray) (x2_3:Sl3):(AH×Sl3×Int)→KN×Lcs:=fun (_,v9_6,v30_7)=>([kS 9 v9_6,kI 30 v30_7,(0,.val (Value.pointer a0)),kL 3 0 0,kL 4 1 0,kS 6 x1,kL 7 2 0,kS 28 a1_11,kI 29 (a1_11.n:Int)],[some (73,[(Value.int .i64 a1_0),(Value.string a1_1),(Value.bool a1_2),(Sl3.v a1_3),(Value.int .i64 a1_4),(Sl3.v a1_5),(Value.int .i64 a1_6),(Value.int .i64 a1_7),(Value.string a1_8),(Sl3.v a1_9),(Sl3.v a1_10),(Sl3.v a1_11)]),some (59,[(Value.int .i64 0),(Value.int .i64 0),(Value.string (⟨#[]⟩:ByteArray)),(Sl3.v Sl3.nil)]),some (59,[(Value.int .i64 x2_0),(Value.int .i64 x2_1),(Value.string x2_2),(Sl3.v x2_3)])])
noncomputable def z4a (L:LC) (_a1_0:Int) (_a1_1:ByteArray) (_a1_2:Bool) (_a1_3:Sl3) (_a1_4:Int) (_a1_5:Sl3) (_a1_6 _a1_7:Int) (_a1_8:ByteArray) (_a1_9 _a1_10:Sl3) (_a1_11 x1:Sl3) (_x2_0 _x2_1:Int) (_x2_2:ByteArray) (_x2_3:Sl3) (H18:AH) (v9_19:Sl3):(Int×Int×Int×ByteArray×Sl3)→Option (Lp (Int×Int×Int×ByteArray×Sl3) (Int×Int×ByteArray×Sl3×Int×AH)):=fun (v56_22,w1_23,w1_24,w1_25,w1_26) =>
 if v56_22<(v9_19.n:Int) then
  Option.bind (idxA 4 v9_19 v56_22) fun p27 =>
  Option.bind (rd (deI .i64) H18 (Addr.add p27 0)) fun x28_0 =>
  Option.bind (rd (deI .i64) H18 (Addr.add p27 1)) fun x28_1 =>
  Option.bind (rd deS H18 (Addr.add p27 2)) fun x28_2 =>
  Option.bind (rd deSl H18 (Addr.add p27 3)) fun x28_3 =>
  Option.bind (idxA 4 x1 v56_22) fun p29 =>
  Option.bind (rd (deI .i64) H18 (Addr.add p29 0)) fun x30_0 =>
  Option.bind (rd (deI .i64) H18 (Addr.add p29 1)) fun x30_1 =>
  Option.bind (rd deS H18 (Addr.add p29 2)) fun x30_2 =>
  Option.bind (rd deSl H18 (Addr.add p29 3)) fun x30_3 =>
  Option.bind (zgx L H18 x28_0 x28_1 x28_2 x28_3 x30_0 x30_1 x30_2 x30_3) fun x31 =>
  if x31=true then
   some (.next ((IntKind.i64.wrap (v56_22+1)),w1_23,w1_24,w1_25,w1_26))
  else
   none
 else
  some (.brk (v56_22,w1_23,w1_24,w1_25,w1_26))
def zd8 (_L:LC) (a1_0:Int) (a1_1:ByteArray) (a1_2:Bool) (a1_3:Sl3) (a1_4:Int) (a1_5:Sl3) (a1_6 a1_7:Int) (a1_8:ByteArray) (a1_9 a1_10:Sl3) (a1_11 x1:Sl3) (x2_0 x2_1:Int) (x2_2:ByteArray) (x2_3:Sl3) (_H18:AH) (v9_19:Sl3):(Int×Int×Int×ByteArray×Sl3)→KN×Lcs:=fun (v56_22,w1_23,w1_24,w1_25,w1_26)=>([kI 56 v56_22,kL 4 1 0,kS 6 x1,kL 7 2 0,kS 54 v9_19,kI 55 (v9_19.n:Int)],[some (73,[(Value.int .i64 a1_0),(Value.string a1_1),(Value.bool a1_2),(Sl3.v a1_3),(Value.int .i64 a1_4),(Sl3.v a1_5),(Value.int .i64 a1_6),(Value.int .i64 a1_7),(Value.string a1_8),(Sl3.v a1_9),(Sl3.v a1_10),(Sl3.v a1_11)]),some (59,[(Value.int .i64 w1_23),(Value.int .i64 w1_24),(Value.string w1_25),(Sl3.v w1_26)]),some (59,[(Value.int .i64 x2_0),(Value.int .i64 x2_1),(Value.string x2_2),(Sl3.v x2_3)])])
noncomputable def z6t (L:LC) (m:Nat) (H:AH) (a0:Option Addr) (a1_0:Int) (a1_1:ByteArray) (a1_2:Bool) (a1_3:Sl3) (a1_4:Int) (a1_5:Sl3) (a1_6 a1_7:Int) (a1_8:ByteArray) (a1_9 a1_10 a1_11:Sl3):Option (Int×Int×ByteArray×Sl3×Int×AH) :=
 Option.bind (z8y L m H a0 a1_0 a1_1 a1_2 a1_3 a1_4 a1_5 a1_6 a1_7 a1_8 a1_9 a1_10 a1_11) fun (x1,x2_0,x2_1,x2_2,x2_3,x3,H4) =>
 if x3=0 then
  Option.bind (L.run (z48 L m a0 a1_0 a1_1 a1_2 a1_3 a1_4 a1_5 a1_6 a1_7 a1_8 a1_9 a1_10 a1_11 x1 x2_0 x2_1 x2_2 x2_3) (H4,Sl3.nil,0)) fun o=>match o with
  | .inl (H18,v9_19,_) =>
   Option.bind (α:=Bool) (
    if a1_0≥11 then
     some (decide (a1_0≤14))
    else
     some false) fun v53_21 =>
   if v53_21=true then
    Option.bind (L.run (z4a L a1_0 a1_1 a1_2 a1_3 a1_4 a1_5 a1_6 a1_7 a1_8 a1_9 a1_10 a1_11 x1 x2_0 x2_1 x2_2 x2_3 H18 v9_19) (0,0,0,(⟨#[]⟩:ByteArray),Sl3.nil)) fun o=>match o with
    | .inl (_,_,_,_,_) =>
     some (x2_0,x2_1,x2_2,x2_3,0,H18)
    | .inr r=>some r
   else
    Option.bind (zdp L m H18 a1_0 a1_1 a1_2 a1_3 a1_4 a1_5 a1_6 a1_7 a1_8 a1_9 a1_10 a1_11 v9_19) fun (x37_0,x37_1,x37_2,x37_3,x38,H39) =>
    if x38=true then
     if a1_0=42 then
      none
     else
      if x37_0=3 then
       none
      else
       Option.bind (z61 L H39 a0 a1_0 a1_1 a1_2 a1_3 a1_4 a1_5 a1_6 a1_7 a1_8 a1_9 a1_10 a1_11) fun x40 =>
       if x40=true then
        some (x37_0,x37_1,x37_2,x37_3,0,H39)
       else
        none
    else
     none
  | .inr r=>some r
 else
  some (x2_0,x2_1,x2_2,x2_3,x3,H4)
theorem z6e {E H L m a0 a1_0 a1_1 a1_2 a1_3 a1_4 a1_5 a1_6 a1_7 a1_8 a1_9 a1_10 a1_11 x1 x2_0 x2_1 x2_2 x2_3} :LoopF Tryz.prog (NE.plain 114) m E Tryz.f42 ((cfst (csnd (cfst (csnd (csnd (csnd (csnd B42)))))))) (zdo L m a0 a1_0 a1_1 a1_2 a1_3 a1_4 a1_5 a1_6 a1_7 a1_8 a1_9 a1_10 a1_11 x1 x2_0 x2_1 x2_2 x2_3) (fun s=>s.1) 0 z3o (z44 H) (z48 L m a0 a1_0 a1_1 a1_2 a1_3 a1_4 a1_5 a1_6 a1_7 a1_8 a1_9 a1_10 a1_11 x1 x2_0 x2_1 x2_2 x2_3):=by
 rintro ⟨H5,v9_6,v30_7⟩ o h
 unfold z48 at h
 try dsimp only at h
 refine WS.sq (WS.rg (RS.mS 1 [kB 31 (decide (v30_7<(a1_11.n:Int)))] (RS.dn (WS.nxt (WS.sq ?_)))))
 rcases z0 h with ⟨hp,h⟩ | ⟨hp,h⟩
 ·refine WS.fx 31 true (decide_eq_true hp) (WS.cT (WS.sk (WS.nxt (WS.sq (WS.bk 1 (WS.sq (WS.rg ?_)))))))
  obtain ⟨p8,hx,h⟩:=bind_some h
  refine RS.ix 32 22 3 (.tmp 28) (.tmp 30) hx ?_
  obtain ⟨x9,hx,h⟩:=bind_some h
  refine RS.ld 33 3 (.tmp 32) (z1 hx z8) (RS.mS 1 [kI 11 x9] (RS.dn (WS.nxt (WS.rg (RS.mS 2 [(35,.val (Value.pointer a0)),kS 34 v9_6] ?_)))))
  obtain ⟨q10,hx,hq10⟩:=bind_some h
  subst hx
  have h:=hq10
  refine RS.mS 2 [(37,.val (Value.pointer (some (Addr.add q10 3)))),kP 36 q10] ?_
  obtain ⟨x11,hx,h⟩:=bind_some h
  refine RS.ld 38 33 (.tmp 37) (z1 hx z3) (RS.mS 1 [kI 39 x9] ?_)
  obtain ⟨p12,hx,h⟩:=bind_some h
  refine RS.ix 40 33 100 (.tmp 38) (.tmp 39) hx (RS.mS 1 [(41,.val (Value.pointer (some (Addr.add p12 12))))] ?_)
  obtain ⟨x13_0,hx0,h⟩:=bind_some h
  obtain ⟨x13_1,hx1,h⟩:=bind_some h
  obtain ⟨x13_2,hx2,h⟩:=bind_some h
  obtain ⟨x13_3,hx3,h⟩:=bind_some h
  refine RS.la 42 59 (.tmp 41) 4 (z2 (z1 hx0 z8) (z2 (z1 hx1 z8) (z2 (z1 hx2 z9) (z2 (z1 hx3 z3) za)))) ?_
  obtain ⟨⟨s14,H15⟩,hx,h⟩:=bind_some h
  try dsimp only at h
  refine RS.o (H':=H15) (some 43) (Sl3.v s14) (Abs.run_newR (by kernel_rfl) (by kernel_rfl) hx) ?_
  obtain ⟨⟨s16,H17⟩,hx,h⟩:=bind_some h
  try dsimp only at h
  refine RS.o (H':=H17) (some 44) (Sl3.v s16) (Abs.run_app (x:=.tmp 34) (y:=.tmp 43) (ts:=#[57,57]) (s:=v9_6) (z:=s14) (by kernel_rfl) (by kernel_rfl) (by kernel_rfl) (by kernel_rfl) hx) (RS.mS 1 [kS 9 s16] (RS.dn ?_))
  refine fun a w hs=>bkN ((WS.nxt ?_ a w hs))
  refine WS.rg (RS.mS 2 [kI 30 (IntKind.i64.wrap (v30_7+1)),kI 45 (IntKind.i64.wrap (v30_7+1))] (RS.dn ?_))
  cases h
  exact fun a w hs=>lsN rfl (hs.sb 3)
 ·refine WS.fx 31 false (decide_eq_false hp) (WS.cF (WS.ex 0 ?_))
  cases h
  exact fun a w hs=>sqE (lsB rfl (hs.sb 3))
theorem z6i {E m H L a1_0 a1_1 a1_2 a1_3 a1_4 a1_5 a1_6 a1_7 a1_8 a1_9 a1_10 a1_11 x1 x2_0 x2_1 x2_2 x2_3 H18 v9_19} :LoopF Tryz.prog (NE.plain 114) m E Tryz.f42 ((cfst (csnd (cfst (cfst (csnd (cfst (csnd (csnd (csnd (csnd (csnd B42)))))))))))) (zd8 L a1_0 a1_1 a1_2 a1_3 a1_4 a1_5 a1_6 a1_7 a1_8 a1_9 a1_10 a1_11 x1 x2_0 x2_1 x2_2 x2_3 H18 v9_19) (fun _=>H18) 2 z3o (z44 H) (z4a L a1_0 a1_1 a1_2 a1_3 a1_4 a1_5 a1_6 a1_7 a1_8 a1_9 a1_10 a1_11 x1 x2_0 x2_1 x2_2 x2_3 H18 v9_19):=by
 rintro ⟨v56_22,w1_23,w1_24,w1_25,w1_26⟩ o h
 unfold z4a at h
 try dsimp only at h
 refine WS.sq (WS.rg (RS.mS 1 [kB 57 (decide (v56_22<(v9_19.n:Int)))] (RS.dn (WS.nxt (WS.sq ?_)))))
 rcases z0 h with ⟨hp,h⟩ | ⟨hp,h⟩
 ·refine WS.fx 57 true (decide_eq_true hp) (WS.cT (WS.sk (WS.nxt (WS.sq (WS.bk 3 (WS.sq (WS.rg (RS.mS 1 [kI 58 v56_22] ?_))))))))
  obtain ⟨p27,hx,h⟩:=bind_some h
  refine RS.ix 59 57 59 (.tmp 54) (.tmp 56) hx ?_
  obtain ⟨x28_0,hx0,h⟩:=bind_some h
  obtain ⟨x28_1,hx1,h⟩:=bind_some h
  obtain ⟨x28_2,hx2,h⟩:=bind_some h
  obtain ⟨x28_3,hx3,h⟩:=bind_some h
  refine RS.la 60 59 (.tmp 59) 4 (z2 (z1 hx0 z8) (z2 (z1 hx1 z8) (z2 (z1 hx2 z9) (z2 (z1 hx3 z3) za)))) (RS.mL 3 [kI 12 v56_22,kL 13 3 0] ([some (73,[(Value.int .i64 a1_0),(Value.string a1_1),(Value.bool a1_2),(Sl3.v a1_3),(Value.int .i64 a1_4),(Sl3.v a1_5),(Value.int .i64 a1_6),(Value.int .i64 a1_7),(Value.string a1_8),(Sl3.v a1_9),(Sl3.v a1_10),(Sl3.v a1_11)]),some (59,[(Value.int .i64 w1_23),(Value.int .i64 w1_24),(Value.string w1_25),(Sl3.v w1_26)]),some (59,[(Value.int .i64 x2_0),(Value.int .i64 x2_1),(Value.string x2_2),(Sl3.v x2_3)]),some (59,[(Value.int .i64 x28_0),(Value.int .i64 x28_1),(Value.string x28_2),(Sl3.v x28_3)])]) (RS.dn (WS.nxt (WS.sq ?_))))
  refine WS.dr [0,1,2,3,4] [0,0,0,6,14,31,63] 7 (fun hcl=>?_)
  refine DA.tL 0 (some 61) (.val (Value.agg #[(Value.int .i64 x28_0),(Value.int .i64 x28_1),(Value.string x28_2),(Sl3.v x28_3)])) (DA.tK 1 (some 62) (Sl3.v x1) (DA.tK 2 (some 63) (Value.int .i64 v56_22) ?_))
  obtain ⟨p29,hx,h⟩:=bind_some h
  refine DA.tD 3 (some 64) (Value.pointer (some p29)) (Abs.det_idx (s:=x1) (k:=.i64) (t:=57) (e:=59) (x:=.tmp 62) (y:=.tmp 63) (by kernel_rfl) (by kernel_rfl) (by kernel_rfl) (by kernel_rfl) (by kernel_rfl) hx) ?_
  obtain ⟨x30_0,hx0,h⟩:=bind_some h
  obtain ⟨x30_1,hx1,h⟩:=bind_some h
  obtain ⟨x30_2,hx2,h⟩:=bind_some h
  obtain ⟨x30_3,hx3,h⟩:=bind_some h
  refine DA.tD 4 (some 65) (Value.agg #[(Value.int .i64 x30_0),(Value.int .i64 x30_1),(Value.string x30_2),(Sl3.v x30_3)]) (Abs.det_loadA (t:=59) (x:=.tmp 64) (a:=p29) (k:=4) (by kernel_rfl) (by kernel_rfl) (by kernel_rfl) (by kernel_rfl) (z2 (z1 hx0 z8) (z2 (z1 hx1 z8) (z2 (z1 hx2 z9) (z2 (z1 hx3 z3) za))))) ?_
  obtain ⟨x31,hx,h⟩:=bind_some h
  refine DA.on 5 (DA.aC 5 (some 66) (v:=(Value.bool x31)) 63 #[(Value.agg #[(Value.int .i64 x28_0),(Value.int .i64 x28_1),(Value.string x28_2),(Sl3.v x28_3)]),(Value.agg #[(Value.int .i64 x30_0),(Value.int .i64 x30_1),(Value.string x30_2),(Sl3.v x30_3)])] (zh1 hx) (DA.tP 6 (some 67) (Value.bool (!x31)) (DA.dn (WS.nxt ?_))))
  rcases z0 h with ⟨hp,h⟩ | ⟨hp,h⟩
  ·refine WS.fx 67 false (nb_not hp) (WS.cF (WS.sk ?_))
   refine fun a w hs=>bkN ((WS.nxt ?_ a w hs))
   refine WS.rg (RS.mS 2 [kI 56 (IntKind.i64.wrap (v56_22+1)),kI 69 (IntKind.i64.wrap (v56_22+1))] (RS.dn ?_))
   cases h
   exact fun a w hs=>lsN rfl (hs.sb 3)
  ·refine WS.fx 67 true (zk hp) (WS.cT ?_)
   cases h
 ·refine WS.fx 57 false (decide_eq_false hp) (WS.cF (WS.ex 2 ?_))
  cases h
  exact fun a w hs=>sqE (lsB rfl (hs.sb 3))
theorem zfx {L:LC} {m:Nat} {H:AH} {a0:Option Addr} {a1_0:Int} {a1_1:ByteArray} {a1_2:Bool} {a1_3:Sl3} {a1_4:Int} {a1_5:Sl3} {a1_6 a1_7:Int} {a1_8:ByteArray} {a1_9 a1_10 a1_11:Sl3} {r:(Int×Int×ByteArray×Sl3×Int×AH)} (h:z6t L m H a0 a1_0 a1_1 a1_2 a1_3 a1_4 a1_5 a1_6 a1_7 a1_8 a1_9 a1_10 a1_11=some r) :
  CallS Tryz.prog (NE.plain 114) m 42 #[(Value.pointer a0),(Value.agg #[(Value.int .i64 a1_0),(Value.string a1_1),(Value.bool a1_2),(Sl3.v a1_3),(Value.int .i64 a1_4),(Sl3.v a1_5),(Value.int .i64 a1_6),(Value.int .i64 a1_7),(Value.string a1_8),(Sl3.v a1_9),(Sl3.v a1_10),(Sl3.v a1_11)])] H (z3o r) (z44 H r):=by
 refine CallS.mk (args:=[(Value.pointer a0),(Value.agg #[(Value.int .i64 a1_0),(Value.string a1_1),(Value.bool a1_2),(Sl3.v a1_3),(Value.int .i64 a1_4),(Sl3.v a1_5),(Value.int .i64 a1_6),(Value.int .i64 a1_7),(Value.string a1_8),(Sl3.v a1_9),(Sl3.v a1_10),(Sl3.v a1_11)])]) Tryz.func42 (B:=B42) (by kernel_rfl) (fun E _=>?_)
 unfold z6t at h
 refine WS.sq (WS.rg (RS.mL 3 [kI 5 0,kL 4 1 0,kL 3 0 0] ([some (73,[(Value.int .i64 a1_0),(Value.string a1_1),(Value.bool a1_2),(Sl3.v a1_3),(Value.int .i64 a1_4),(Sl3.v a1_5),(Value.int .i64 a1_6),(Value.int .i64 a1_7),(Value.string a1_8),(Sl3.v a1_9),(Sl3.v a1_10),(Sl3.v a1_11)]),some (59,[(Value.int .i64 0),(Value.int .i64 0),(Value.string (⟨#[]⟩:ByteArray)),(Sl3.v Sl3.nil)])]) (RS.dn (WS.nxt (WS.sq (WS.rg (RS.mS 2 [kA 18 #[(Value.int .i64 a1_0),(Value.string a1_1),(Value.bool a1_2),(Sl3.v a1_3),(Value.int .i64 a1_4),(Sl3.v a1_5),(Value.int .i64 a1_6),(Value.int .i64 a1_7),(Value.string a1_8),(Sl3.v a1_9),(Sl3.v a1_10),(Sl3.v a1_11)],(17,.val (Value.pointer a0))] ?_)))))))
 obtain ⟨⟨x1,x2_0,x2_1,x2_2,x2_3,x3,H4⟩,hx,h⟩:=bind_some h
 try dsimp only at h
 refine RS.cl (some 19) (v:=(Value.tuple #[(Sl3.v x1),(Value.agg #[(Value.int .i64 x2_0),(Value.int .i64 x2_1),(Value.string x2_2),(Sl3.v x2_3)]),(Value.int .i64 x3)])) 62 #[(Value.pointer a0),(Value.agg #[(Value.int .i64 a1_0),(Value.string a1_1),(Value.bool a1_2),(Sl3.v a1_3),(Value.int .i64 a1_4),(Sl3.v a1_5),(Value.int .i64 a1_6),(Value.int .i64 a1_7),(Value.string a1_8),(Sl3.v a1_9),(Sl3.v a1_10),(Sl3.v a1_11)])] (zhl hx) (RS.mL 8 [kI 8 x3,kS 6 x1,kL 7 2 0,kI 22 x3,kA 21 #[(Value.int .i64 x2_0),(Value.int .i64 x2_1),(Value.string x2_2),(Sl3.v x2_3)],kS 20 x1,(16,.val (Value.tuple #[(Sl3.v x1),(Value.agg #[(Value.int .i64 x2_0),(Value.int .i64 x2_1),(Value.string x2_2),(Sl3.v x2_3)]),(Value.int .i64 x3)]))] ([some (73,[(Value.int .i64 a1_0),(Value.string a1_1),(Value.bool a1_2),(Sl3.v a1_3),(Value.int .i64 a1_4),(Sl3.v a1_5),(Value.int .i64 a1_6),(Value.int .i64 a1_7),(Value.string a1_8),(Sl3.v a1_9),(Sl3.v a1_10),(Sl3.v a1_11)]),some (59,[(Value.int .i64 0),(Value.int .i64 0),(Value.string (⟨#[]⟩:ByteArray)),(Sl3.v Sl3.nil)]),some (59,[(Value.int .i64 x2_0),(Value.int .i64 x2_1),(Value.string x2_2),(Sl3.v x2_3)])]) (RS.dn (WS.nxt (WS.sq (WS.sq (WS.rg (RS.mS 2 [kB 24 (!decide (x3=0)),kI 23 x3] (RS.dn (WS.nxt ?_)))))))))
 rcases z0 h with ⟨hp,h⟩ | ⟨hp,h⟩
 ·refine WS.fx 24 false (z2b hp) (WS.cF (WS.sk (WS.nxt (WS.sq (WS.rg (RS.mS 1 [kS 9 Sl3.nil] (RS.dn (WS.nxt (WS.sq ?_)))))))))
  refine WS.sq (WS.rg (RS.mS 4 [kI 30 0,kI 29 (a1_11.n:Int),kS 28 a1_11,kL 27 0 11] (RS.dn (WS.nxt (WS.bk 0 ?_)))))
  obtain ⟨o,hl,h⟩:=bind_some h
  rcases o with ⟨H18,v9_19,v30_20⟩ | r
  ·try dsimp only at h
   refine WS.lI (z6e (L:=L) (E:=E) (m:=m) (H:=H)) (L.ok hl) 3 ?_
   clear hl
   refine fun a w hs=>bkE ((WS.nxt ?_ a w hs))
   refine WS.sq ?_
   obtain ⟨v53_21,hx,h⟩:=bind_some h
   refine WS.sq ?_
   refine WS.join ([kB 53 v53_21,(0,.val (Value.pointer a0)),kL 3 0 0,kL 4 1 0,kS 6 x1,kL 7 2 0,kS 9 v9_19]) ([some (73,[(Value.int .i64 a1_0),(Value.string a1_1),(Value.bool a1_2),(Sl3.v a1_3),(Value.int .i64 a1_4),(Sl3.v a1_5),(Value.int .i64 a1_6),(Value.int .i64 a1_7),(Value.string a1_8),(Sl3.v a1_9),(Sl3.v a1_10),(Sl3.v a1_11)]),some (59,[(Value.int .i64 0),(Value.int .i64 0),(Value.string (⟨#[]⟩:ByteArray)),(Sl3.v Sl3.nil)]),some (59,[(Value.int .i64 x2_0),(Value.int .i64 x2_1),(Value.string x2_2),(Sl3.v x2_3)])]) H18 ?_ (fun a w hs=>WS.nxt ?_ a w hs)
   ·clear h; rename _=>h
    refine WS.rg (RS.mS 4 [kB 49 (decide (a1_0≥11)),kB 48 (decide (a1_0≥11)),kI 47 a1_0,kL 46 0 0] ?_)
    rcases z0 h with ⟨hp,h⟩ | ⟨hp,h⟩
    ·refine RS.fx 49 true (decide_eq_true hp) (RS.mS 4 [kB 53 (decide (a1_0≤14)),kB 52 (decide (a1_0≤14)),kI 51 a1_0,kL 50 0 0] (RS.dn ?_))
     cases h
     exact fun a w hs=>(jsN (hs.sb 3))
    ·refine RS.fx 49 false (decide_eq_false hp) (RS.mS 4 [kB 53 false,kU 52,kU 51,kU 50] (RS.dn ?_))
     cases h
     exact fun a w hs=>(jsN (hs.sb 3))
   ·clear hx
    rcases z0 h with ⟨hp,h⟩ | ⟨hp,h⟩
    ·refine WS.fx 53 true hp (WS.cT (WS.sq (WS.sq (WS.rg (RS.mS 3 [kI 56 0,kI 55 (v9_19.n:Int),kS 54 v9_19] (RS.dn (WS.nxt (WS.bk 2 ?_))))))))
     obtain ⟨o,hl,h⟩:=bind_some h
     rcases o with ⟨v56_32,w1_33,w1_34,w1_35,w1_36⟩ | r
     ·try dsimp only at h
      refine WS.lI (z6i (L:=L) (E:=E) (m:=m) (H:=H)) (L.ok hl) 3 ?_
      clear hl
      refine fun a w hs=>bkE ((WS.nxt ?_ a w hs))
      refine WS.sq (WS.rg (RS.mL 3 [kI 5 0,kA 70 #[(Value.int .i64 x2_0),(Value.int .i64 x2_1),(Value.string x2_2),(Sl3.v x2_3)]] ([some (73,[(Value.int .i64 a1_0),(Value.string a1_1),(Value.bool a1_2),(Sl3.v a1_3),(Value.int .i64 a1_4),(Sl3.v a1_5),(Value.int .i64 a1_6),(Value.int .i64 a1_7),(Value.string a1_8),(Sl3.v a1_9),(Sl3.v a1_10),(Sl3.v a1_11)]),some (59,[(Value.int .i64 x2_0),(Value.int .i64 x2_1),(Value.string x2_2),(Sl3.v x2_3)]),some (59,[(Value.int .i64 x2_0),(Value.int .i64 x2_1),(Value.string x2_2),(Sl3.v x2_3)])]) (RS.dn (WS.nxt (WS.rt ?_)))))
      cases h
      exact fun a w hs=>sqR (rtR (rS hs))
     ·try dsimp only at h
      refine WS.lR (z6i (L:=L) (E:=E) (m:=m) (H:=H)) (L.ok hl) 3 ?_
      cases h
      exact fun a w hq=>bkR (sqR (sqR (rtR hq)))
    ·refine WS.fx 53 false (b_not hp) (WS.cF (WS.sk (WS.nxt (WS.sq (WS.rg (RS.mS 2 [kS 73 v9_19,kA 72 #[(Value.int .i64 a1_0),(Value.string a1_1),(Value.bool a1_2),(Sl3.v a1_3),(Value.int .i64 a1_4),(Sl3.v a1_5),(Value.int .i64 a1_6),(Value.int .i64 a1_7),(Value.string a1_8),(Sl3.v a1_9),(Sl3.v a1_10),(Sl3.v a1_11)]] ?_))))))
     obtain ⟨⟨x37_0,x37_1,x37_2,x37_3,x38,H39⟩,hx,h⟩:=bind_some h
     try dsimp only at h
     refine RS.cl (some 74) (v:=(Value.tuple #[(Value.agg #[(Value.int .i64 x37_0),(Value.int .i64 x37_1),(Value.string x37_2),(Sl3.v x37_3)]),(Value.bool x38)])) 64 #[(Value.agg #[(Value.int .i64 a1_0),(Value.string a1_1),(Value.bool a1_2),(Sl3.v a1_3),(Value.int .i64 a1_4),(Sl3.v a1_5),(Value.int .i64 a1_6),(Value.int .i64 a1_7),(Value.string a1_8),(Sl3.v a1_9),(Sl3.v a1_10),(Sl3.v a1_11)]),(Sl3.v v9_19)] (zk6 hx) (RS.mL 6 [kB 15 x38,kL 14 3 0,kB 76 x38,kA 75 #[(Value.int .i64 x37_0),(Value.int .i64 x37_1),(Value.string x37_2),(Sl3.v x37_3)],(71,.val (Value.tuple #[(Value.agg #[(Value.int .i64 x37_0),(Value.int .i64 x37_1),(Value.string x37_2),(Sl3.v x37_3)]),(Value.bool x38)]))] ([some (73,[(Value.int .i64 a1_0),(Value.string a1_1),(Value.bool a1_2),(Sl3.v a1_3),(Value.int .i64 a1_4),(Sl3.v a1_5),(Value.int .i64 a1_6),(Value.int .i64 a1_7),(Value.string a1_8),(Sl3.v a1_9),(Sl3.v a1_10),(Sl3.v a1_11)]),some (59,[(Value.int .i64 0),(Value.int .i64 0),(Value.string (⟨#[]⟩:ByteArray)),(Sl3.v Sl3.nil)]),some (59,[(Value.int .i64 x2_0),(Value.int .i64 x2_1),(Value.string x2_2),(Sl3.v x2_3)]),some (59,[(Value.int .i64 x37_0),(Value.int .i64 x37_1),(Value.string x37_2),(Sl3.v x37_3)])]) (RS.dn (WS.nxt (WS.sq (WS.bk 4 (WS.sq (WS.rg (RS.mS 3 [kB 77 (!x38),kB 79 (!x38),kB 78 x38] (RS.dn ?_)))))))))
     refine WS.nxt ?_
     rcases z0 h with ⟨hp,h⟩ | ⟨hp,h⟩
     ·refine WS.fx 77 false (nb_not hp) (WS.cF (WS.sq ?_))
      refine WS.dr [0,1,2,3,4,5,6,7,8,9,10,11,12,13,14,15,16,17,18,19,20] [0,1,3,7,15,31,63,127,15,271,783,1807,4095,8191,16383,32767,65535,131071,262143,524287,1048575,2097151,4194303,8388607,16777215] 25 (fun hcl=>?_)
      refine DA.tL 0 (some 82) (.loc 0 0) (DA.tL 1 (some 83) (.val (Value.int .i64 a1_0)) (DA.tK 2 (some 84) (Value.bool (decide (a1_0=42))) (DA.tK 3 (some 85) (Value.bool (decide (a1_0=42))) ?_)))
      rcases z0 h with ⟨hp,h⟩ | ⟨hp,h⟩
      ·refine DA.fx 85 true (decide_eq_true hp) ?_
       cases h
      ·refine DA.fx 85 false (decide_eq_false hp) ?_
       refine DA.tskipD 4 (some 86) (by kernel_rfl) (by kernel_rfl) (by kernel_rfl) hcl (fun _ _ _ h=>h) (by kernel_rfl) ?_
       refine DA.tskipD 5 (some 87) (by kernel_rfl) (by kernel_rfl) (by kernel_rfl) hcl (fun _ _ _ h=>h) (by kernel_rfl) ?_
       refine DA.tskipD 6 (some 88) (by kernel_rfl) (by kernel_rfl) (by kernel_rfl) hcl (fun _ _ _ h=>h) (by kernel_rfl) ?_
       refine DA.tskipD 7 (some 89) (by kernel_rfl) (by kernel_rfl) (by kernel_rfl) hcl (fun _ _ _ h=>h) (by kernel_rfl) ?_
       refine DA.tskipD 8 (some 90) (by kernel_rfl) (by kernel_rfl) (by kernel_rfl) hcl (fun _ _ _ h=>h) (by kernel_rfl) ?_
       refine DA.tskipD 9 (some 91) (by kernel_rfl) (by kernel_rfl) (by kernel_rfl) hcl (fun _ _ _ h=>h) (by kernel_rfl) ?_
       refine DA.tskipD 10 (some 92) (by kernel_rfl) (by kernel_rfl) (by kernel_rfl) hcl (fun _ _ _ h=>h) (by kernel_rfl) ?_
       refine DA.tskipD 11 (some 93) (by kernel_rfl) (by kernel_rfl) (by kernel_rfl) hcl (fun _ _ _ h=>h) (by kernel_rfl) ?_
       refine DA.tskipD 12 (some 94) (by kernel_rfl) (by kernel_rfl) (by kernel_rfl) hcl (fun _ _ _ h=>h) (by kernel_rfl) ?_
       refine DA.tK 13 (some 95) (Value.bool false) (DA.tK 14 (some 96) (Value.bool false) (DA.tL 15 (some 97) (.loc 3 0) (DA.tL 16 (some 98) (.val (Value.int .i64 x37_0)) (DA.tK 17 (some 99) (Value.bool (decide (x37_0=3))) (DA.tK 18 (some 100) (Value.bool (decide (x37_0=3))) ?_)))))
       rcases z0 h with ⟨hp,h⟩ | ⟨hp,h⟩
       ·refine DA.fx 100 true (decide_eq_true hp) ?_
        cases h
       ·refine DA.fx 100 false (decide_eq_false hp) ?_
        refine DA.tskipD 19 (some 101) (by kernel_rfl) (by kernel_rfl) (by kernel_rfl) hcl (fun _ _ _ h=>h) (by kernel_rfl) ?_
        refine DA.tskipD 20 (some 102) (by kernel_rfl) (by kernel_rfl) (by kernel_rfl) hcl (fun _ _ _ h=>h) (by kernel_rfl) ?_
        refine DA.tskipP 21 (some 103) (by kernel_rfl) (by kernel_rfl) (by kernel_rfl) hcl (fun _ _ _ h=>h) (by kernel_rfl) ?_
        refine DA.tP 22 (some 104) (Value.bool false) (DA.tP 23 (some 105) (Value.bool false) (DA.tP 24 (some 81) (Value.bool false) (DA.dn (WS.nxt (WS.cF (WS.sq (WS.rg (RS.mS 2 [kA 109 #[(Value.int .i64 a1_0),(Value.string a1_1),(Value.bool a1_2),(Sl3.v a1_3),(Value.int .i64 a1_4),(Sl3.v a1_5),(Value.int .i64 a1_6),(Value.int .i64 a1_7),(Value.string a1_8),(Sl3.v a1_9),(Sl3.v a1_10),(Sl3.v a1_11)],(108,.val (Value.pointer a0))] ?_))))))))
        obtain ⟨x40,hx,h⟩:=bind_some h
        refine RS.cl (some 110) (v:=(Value.bool x40)) 65 #[(Value.pointer a0),(Value.agg #[(Value.int .i64 a1_0),(Value.string a1_1),(Value.bool a1_2),(Sl3.v a1_3),(Value.int .i64 a1_4),(Sl3.v a1_5),(Value.int .i64 a1_6),(Value.int .i64 a1_7),(Value.string a1_8),(Sl3.v a1_9),(Sl3.v a1_10),(Sl3.v a1_11)])] (zf4 hx) (RS.mS 2 [kB 107 (!x40),kB 111 (!x40)] (RS.dn (WS.nxt ?_)))
        rcases z0 h with ⟨hp,h⟩ | ⟨hp,h⟩
        ·refine WS.fx 107 false (nb_not hp) (WS.cF (WS.sk ?_))
         refine fun a w hs=>bkN ((WS.nxt ?_ a w hs))
         refine WS.sq (WS.rg (RS.mL 3 [kI 5 0,kA 113 #[(Value.int .i64 x37_0),(Value.int .i64 x37_1),(Value.string x37_2),(Sl3.v x37_3)]] ([some (73,[(Value.int .i64 a1_0),(Value.string a1_1),(Value.bool a1_2),(Sl3.v a1_3),(Value.int .i64 a1_4),(Sl3.v a1_5),(Value.int .i64 a1_6),(Value.int .i64 a1_7),(Value.string a1_8),(Sl3.v a1_9),(Sl3.v a1_10),(Sl3.v a1_11)]),some (59,[(Value.int .i64 x37_0),(Value.int .i64 x37_1),(Value.string x37_2),(Sl3.v x37_3)]),some (59,[(Value.int .i64 x2_0),(Value.int .i64 x2_1),(Value.string x2_2),(Sl3.v x2_3)]),some (59,[(Value.int .i64 x37_0),(Value.int .i64 x37_1),(Value.string x37_2),(Sl3.v x37_3)])]) (RS.dn (WS.nxt (WS.rt ?_)))))
         cases h
         exact fun a w hs=>rtR (rS hs)
        ·refine WS.fx 107 true (zk hp) (WS.cT ?_)
         cases h
     ·refine WS.fx 77 true (zk hp) (WS.cT ?_)
      cases h
  ·try dsimp only at h
   refine WS.lR (z6e (L:=L) (E:=E) (m:=m) (H:=H)) (L.ok hl) 3 ?_
   cases h
   exact fun a w hq=>bkR (sqR (rtR hq))
 ·refine WS.fx 24 true (z1k hp) (WS.cT (WS.sq (WS.rg (RS.mL 4 [kI 5 x3,kI 26 x3,kA 25 #[(Value.int .i64 x2_0),(Value.int .i64 x2_1),(Value.string x2_2),(Sl3.v x2_3)]] ([some (73,[(Value.int .i64 a1_0),(Value.string a1_1),(Value.bool a1_2),(Sl3.v a1_3),(Value.int .i64 a1_4),(Sl3.v a1_5),(Value.int .i64 a1_6),(Value.int .i64 a1_7),(Value.string a1_8),(Sl3.v a1_9),(Sl3.v a1_10),(Sl3.v a1_11)]),some (59,[(Value.int .i64 x2_0),(Value.int .i64 x2_1),(Value.string x2_2),(Sl3.v x2_3)]),some (59,[(Value.int .i64 x2_0),(Value.int .i64 x2_1),(Value.string x2_2),(Sl3.v x2_3)])]) (RS.dn (WS.nxt (WS.rt ?_)))))))
  cases h
  exact fun a w hs=>sqR (rtR (rS hs))
def zhm:ByteArray→Value
 | r0=>(Value.string r0)
def zib (H:AH):ByteArray→AH:=fun _=>H
noncomputable def B115:Code:=(Tryz.f115.body).getD .skip
noncomputable def zaa (_L:LC) (a0:Int):Option ByteArray :=
 if a0<10 then
  Option.bind (strC (⟨#[48,49,50,51,52,53,54,55,56,57,97,98,99,100,101,102,103,104,105,106,107,108,109,110,111,112,113,114,115,116,117,118,119,120,121,122]⟩:ByteArray) (some a0) (some (IntKind.i64.wrap (a0+1)))) fun s1 =>
  some s1
 else
  Option.bind (strC (⟨#[48,48,48,49,48,50,48,51,48,52,48,53,48,54,48,55,48,56,48,57,49,48,49,49,49,50,49,51,49,52,49,53,49,54,49,55,49,56,49,57,50,48,50,49,50,50,50,51,50,52,50,53,50,54,50,55,50,56,50,57,51,48,51,49,51,50,51,51,51,52,51,53,51,54,51,55,51,56,51,57,52,48,52,49,52,50,52,51,52,52,52,53,52,54,52,55,52,56,52,57,53,48,53,49,53,50,53,51,53,52,53,53,53,54,53,55,53,56,53,57,54,48,54,49,54,50,54,51,54,52,54,53,54,54,54,55,54,56,54,57,55,48,55,49,55,50,55,51,55,52,55,53,55,54,55,55,55,56,55,57,56,48,56,49,56,50,56,51,56,52,56,53,56,54,56,55,56,56,56,57,57,48,57,49,57,50,57,51,57,52,57,53,57,54,57,55,57,56,57,57]⟩:ByteArray) (some (IntKind.i64.wrap (a0*2))) (some (IntKind.i64.wrap ((IntKind.i64.wrap (a0*2))+2)))) fun s2 =>
  some s2
theorem zic {L:LC} {m:Nat} {H:AH} {a0:Int} {r:ByteArray} (h:zaa L a0=some r) :
  CallS Tryz.prog (NE.plain 114) m 115 #[(Value.int .i64 a0)] H (zhm r) (zib H r):=by
 refine CallS.mk (args:=[(Value.int .i64 a0)]) Tryz.func115 (B:=B115) (by kernel_rfl) (fun E _=>?_)
 unfold zaa at h
 refine WS.sq (WS.rg (RS.mS 1 [kT 2 (⟨#[]⟩:ByteArray)] (RS.dn (WS.nxt (WS.sq (WS.sq (WS.rg (RS.mS 2 [kB 4 (decide (a0<10)),kI 3 a0] (RS.dn ?_)))))))))
 refine WS.nxt ?_
 rcases z0 h with ⟨hp,h⟩ | ⟨hp,h⟩
 ·refine WS.fx 4 true (decide_eq_true hp) (WS.cT (WS.sq (WS.rg (RS.mS 3 [kI 7 (IntKind.i64.wrap (a0+1)),kI 6 a0,kI 5 a0] ?_))))
  obtain ⟨s1,hx,h⟩:=bind_some h
  refine RS.o (H':=H) (some 8) (Value.string s1) (Abs.run_strC (t:=9) (x:=.const (Value.string (⟨#[48,49,50,51,52,53,54,55,56,57,97,98,99,100,101,102,103,104,105,106,107,108,109,110,111,112,113,114,115,116,117,118,119,120,121,122]⟩:ByteArray))) (lo:=(some (.tmp 5))) (hi:=(some (.tmp 7))) (s:=(⟨#[48,49,50,51,52,53,54,55,56,57,97,98,99,100,101,102,103,104,105,106,107,108,109,110,111,112,113,114,115,116,117,118,119,120,121,122]⟩:ByteArray)) (k1:=.i64) (k2:=.i64) (by kernel_rfl) (by kernel_rfl) (by kernel_rfl) (by kernel_rfl) (by kernel_rfl) hx) (RS.mS 1 [kT 2 s1] (RS.dn (WS.nxt (WS.rt ?_))))
  cases h
  exact fun a w hs=>sqR (rtR (rS hs))
 ·refine WS.fx 4 false (decide_eq_false hp) (WS.cF (WS.sk (WS.nxt (WS.sq (WS.rg (RS.mS 5 [kI 13 (IntKind.i64.wrap ((IntKind.i64.wrap (a0*2))+2)),kI 12 (IntKind.i64.wrap (a0*2)),kI 11 a0,kI 10 (IntKind.i64.wrap (a0*2)),kI 9 a0] ?_))))))
  obtain ⟨s2,hx,h⟩:=bind_some h
  refine RS.o (H':=H) (some 14) (Value.string s2) (Abs.run_strC (t:=9) (x:=.const (Value.string (⟨#[48,48,48,49,48,50,48,51,48,52,48,53,48,54,48,55,48,56,48,57,49,48,49,49,49,50,49,51,49,52,49,53,49,54,49,55,49,56,49,57,50,48,50,49,50,50,50,51,50,52,50,53,50,54,50,55,50,56,50,57,51,48,51,49,51,50,51,51,51,52,51,53,51,54,51,55,51,56,51,57,52,48,52,49,52,50,52,51,52,52,52,53,52,54,52,55,52,56,52,57,53,48,53,49,53,50,53,51,53,52,53,53,53,54,53,55,53,56,53,57,54,48,54,49,54,50,54,51,54,52,54,53,54,54,54,55,54,56,54,57,55,48,55,49,55,50,55,51,55,52,55,53,55,54,55,55,55,56,55,57,56,48,56,49,56,50,56,51,56,52,56,53,56,54,56,55,56,56,56,57,57,48,57,49,57,50,57,51,57,52,57,53,57,54,57,55,57,56,57,57]⟩:ByteArray))) (lo:=(some (.tmp 10))) (hi:=(some (.tmp 13))) (s:=(⟨#[48,48,48,49,48,50,48,51,48,52,48,53,48,54,48,55,48,56,48,57,49,48,49,49,49,50,49,51,49,52,49,53,49,54,49,55,49,56,49,57,50,48,50,49,50,50,50,51,50,52,50,53,50,54,50,55,50,56,50,57,51,48,51,49,51,50,51,51,51,52,51,53,51,54,51,55,51,56,51,57,52,48,52,49,52,50,52,51,52,52,52,53,52,54,52,55,52,56,52,57,53,48,53,49,53,50,53,51,53,52,53,53,53,54,53,55,53,56,53,57,54,48,54,49,54,50,54,51,54,52,54,53,54,54,54,55,54,56,54,57,55,48,55,49,55,50,55,51,55,52,55,53,55,54,55,55,55,56,55,57,56,48,56,49,56,50,56,51,56,52,56,53,56,54,56,55,56,56,56,57,57,48,57,49,57,50,57,51,57,52,57,53,57,54,57,55,57,56,57,57]⟩:ByteArray)) (k1:=.i64) (k2:=.i64) (by kernel_rfl) (by kernel_rfl) (by kernel_rfl) (by kernel_rfl) (by kernel_rfl) hx) (RS.mS 1 [kT 2 s2] (RS.dn (WS.nxt (WS.rt ?_))))
  cases h
  exact fun a w hs=>rtR (rS hs)
def zee:(ByteArray×AH)→Value
 | (r0,_)=>(Value.string r0)
def zf7 (_:AH):(ByteArray×AH)→AH:=fun r=>r.2
noncomputable def B102:Code:=(Tryz.f102.body).getD .skip
noncomputable def z65 (L:LC) (_m:Nat) (H:AH) (a0 a1:Int):Option (ByteArray×AH) :=
 if a1=10 then
  if 0≤a0 then
   if a0<100 then
    Option.bind (zaa L a0) fun x1 =>
    some (x1,H)
   else
    none
  else
   none
 else
  none
theorem zes {L:LC} {m:Nat} {H:AH} {a0 a1:Int} {r:(ByteArray×AH)} (h:z65 L m H a0 a1=some r) :
  CallS Tryz.prog (NE.plain 114) m 102 #[(Value.int .i64 a0),(Value.int .i64 a1)] H (zee r) (zf7 H r):=by
 refine CallS.mk (args:=[(Value.int .i64 a0),(Value.int .i64 a1)]) Tryz.func102 (B:=B102) (by kernel_rfl) (fun E _=>?_)
 unfold z65 at h
 refine WS.sq (WS.rg (RS.mS 1 [kT 4 (⟨#[]⟩:ByteArray)] (RS.dn (WS.nxt (WS.sq (WS.sq (WS.rg (RS.mS 2 [kB 11 (decide (a1=10)),kI 10 a1] (RS.dn ?_)))))))))
 refine WS.nxt ?_
 rcases z0 h with ⟨hp,h⟩ | ⟨hp,h⟩
 ·refine WS.fx 11 true (decide_eq_true hp) (WS.cT (WS.sq (WS.sq (WS.rg (RS.mS 3 [kB 14 (decide (0≤a0)),kB 13 (decide (0≤a0)),kI 12 a0] ?_)))))
  rcases z0 h with ⟨hp,h⟩ | ⟨hp,h⟩
  ·refine RS.fx 14 true (decide_eq_true hp) (RS.mS 3 [kB 17 (decide (a0<100)),kB 16 (decide (a0<100)),kI 15 a0] (RS.dn (WS.nxt ?_)))
   rcases z0 h with ⟨hp,h⟩ | ⟨hp,h⟩
   ·refine WS.fx 17 true (decide_eq_true hp) (WS.cT (WS.sq (WS.rg (RS.mS 1 [kI 18 a0] ?_))))
    obtain ⟨x1,hx,h⟩:=bind_some h
    refine RS.cl (some 19) (v:=(Value.string x1)) 115 #[(Value.int .i64 a0)] (zic hx) (RS.mS 1 [kT 4 x1] (RS.dn (WS.nxt (WS.rt ?_))))
    cases h
    exact fun a w hs=>sqR (sqR (rtR (rS hs)))
   ·refine WS.fx 17 false (decide_eq_false hp) (WS.cF ?_)
    cases h
  ·refine RS.fx 14 false (decide_eq_false hp) ?_
   cases h
 ·refine WS.fx 11 false (decide_eq_false hp) (WS.cF ?_)
  cases h
def zg1:(ByteArray×AH)→Value
 | (r0,_)=>(Value.string r0)
def zgc (_:AH):(ByteArray×AH)→AH:=fun r=>r.2
noncomputable def B75:Code:=(Tryz.f75.body).getD .skip
noncomputable def z84 (L:LC) (m:Nat) (H:AH) (a0:Int):Option (ByteArray×AH) :=
 Option.bind (z65 L m H a0 10) fun (x1,H2) =>
 some (x1,H2)
theorem zgw {L:LC} {m:Nat} {H:AH} {a0:Int} {r:(ByteArray×AH)} (h:z84 L m H a0=some r) :
  CallS Tryz.prog (NE.plain 114) m 75 #[(Value.int .i64 a0)] H (zg1 r) (zgc H r):=by
 refine CallS.mk (args:=[(Value.int .i64 a0)]) Tryz.func75 (B:=B75) (by kernel_rfl) (fun E _=>?_)
 unfold z84 at h
 refine WS.sq (WS.rg (RS.mS 1 [kT 2 (⟨#[]⟩:ByteArray)] (RS.dn (WS.nxt (WS.sq (WS.rg (RS.mS 1 [kI 3 a0] ?_)))))))
 obtain ⟨⟨x1,H2⟩,hx,h⟩:=bind_some h
 try dsimp only at h
 refine RS.cl (some 4) (v:=(Value.string x1)) 102 #[(Value.int .i64 a0),(Value.int .i64 10)] (zes hx) (RS.mS 1 [kT 2 x1] (RS.dn (WS.nxt (WS.rt ?_))))
 cases h
 exact fun a w hs=>rtR (rS hs)
def ziu:(ByteArray×AH)→Value
 | (r0,_)=>(Value.string r0)
def zji (_:AH):(ByteArray×AH)→AH:=fun r=>r.2
noncomputable def B47:Code:=(Tryz.f47.body).getD .skip
noncomputable def z7h (L:LC) (m:Nat) (H:AH) (a0:Int):Option (ByteArray×AH) :=
 Option.bind (z84 L m H a0) fun (x1,H2) =>
 some (x1,H2)
theorem zcq {L:LC} {m:Nat} {H:AH} {a0:Int} {r:(ByteArray×AH)} (h:z7h L m H a0=some r) :
  CallS Tryz.prog (NE.plain 114) m 47 #[(Value.int .i64 a0)] H (ziu r) (zji H r):=by
 refine CallS.mk (args:=[(Value.int .i64 a0)]) Tryz.func47 (B:=B47) (by kernel_rfl) (fun E _=>?_)
 unfold z7h at h
 refine WS.sq (WS.rg (RS.mS 1 [kT 2 (⟨#[]⟩:ByteArray)] (RS.dn (WS.nxt (WS.sq (WS.rg (RS.mS 1 [kI 3 a0] ?_)))))))
 obtain ⟨⟨x1,H2⟩,hx,h⟩:=bind_some h
 try dsimp only at h
 refine RS.cl (some 4) (v:=(Value.string x1)) 75 #[(Value.int .i64 a0)] (zgw hx) (RS.mS 1 [kT 2 x1] (RS.dn (WS.nxt (WS.rt ?_))))
 cases h
 exact fun a w hs=>rtR (rS hs)
def z8e:AH→Value
 | _=>(Value.tuple #[])
def z8z (_:AH):AH→AH:=fun r=>r
noncomputable def B95:Code:=(Tryz.f95.body).getD .skip
noncomputable def z19 (_L:LC) (m:Nat) (H:AH) (a0:Option Addr):Option AH :=
 Option.bind a0 fun q1 =>
 Option.bind (rd deP H (Addr.add q1 0)) fun x2 =>
 match x2 with
 | none =>
  Option.bind (gOp Tryz.prog m (opsOf (cfst (csnd B95))) 2 [(8,.val (Value.pointer (some q1)))] deP H) fun (x7,H8) =>
  Option.bind x7 fun q9 =>
  Option.bind (gOp Tryz.prog m (opsOf (cfst (csnd B95))) 4 [(10,.val (Value.pointer (some q9)))] deP H8) fun (x10,H11) =>
  Option.bind (H11.setCell m (Addr.add q1 0) (Value.pointer x10)) fun H12 =>
  some H12
 | some _ =>
  Option.bind (rd deP H (Addr.add q1 0)) fun x4 =>
  match x4 with
  | none =>
   none
  | some q5 =>
   Option.bind (gOp1 Tryz.prog (opsOf (cfst (csnd (csnd B95)))) 5 [(17,.val (Value.pointer (some q5))),(18,.val (Value.pointer (some q1)))] deB H) fun x6 =>
   if x6=true then
    none
   else
    some H
theorem z3e {L:LC} {m:Nat} {H:AH} {a0:Option Addr} {r:AH} (h:z19 L m H a0=some r) :
  CallS Tryz.prog (NE.plain 114) m 95 #[(Value.pointer a0)] H (z8e r) (z8z H r):=by
 refine CallS.mk (args:=[(Value.pointer a0)]) Tryz.func95 (B:=B95) (by kernel_rfl) (fun E _=>?_)
 unfold z19 at h
 refine WS.sq (WS.rg (RS.mS 1 [(2,.val (Value.pointer a0))] ?_))
 obtain ⟨q1,hx,hq1⟩:=bind_some h
 subst hx
 have h:=hq1
 refine RS.mS 2 [(4,.val (Value.pointer (some (Addr.add q1 0)))),kP 3 q1] ?_
 obtain ⟨x2,hx,h⟩:=bind_some h
 refine RS.ld 5 153 (.tmp 4) (z1 hx z16) ?_
 rcases x2 with _ | q3
 ·try dsimp only at h
  refine RS.mS 1 [kB 6 true] (RS.dn (WS.nxt (WS.cT (WS.rg (RS.mS 2 [kP 8 q1,kP 7 q1] ?_)))))
  obtain ⟨⟨x7,H8⟩,hx,h⟩:=bind_some h
  try dsimp only at h
  refine RS.o (H':=H8) (some 9) (Value.pointer x7) (ze0 hx z16 (by kernel_rfl)) ?_
  obtain ⟨q9,hx,hq9⟩:=bind_some h
  subst hx
  have h:=hq9
  refine RS.esc (H':=H8) (some 10) (Value.pointer (some q9)) (by kernel_rfl) (by kernel_rfl) (by kernel_rfl) (by kernel_rfl) ?_
  obtain ⟨⟨x10,H11⟩,hx,h⟩:=bind_some h
  try dsimp only at h
  refine RS.o (H':=H11) (some 11) (Value.pointer x10) (ze0 hx z16 (by kernel_rfl)) (RS.mS 2 [(13,.val (Value.pointer (some (Addr.add q1 0)))),kP 12 q1] ?_)
  obtain ⟨H12,hx,h⟩:=bind_some h
  refine RS.o (H':=H12) none undef (Abs.run_store1 (t:=153) (x:=.tmp 13) (y:=.tmp 11) (a:=(Addr.add q1 0)) (v:=(Value.pointer x10)) (by kernel_rfl) (by kernel_rfl) (by kernel_rfl) (by kernel_rfl) (by kernel_rfl) hx) (RS.dn ?_)
  cases h
  exact fun a w hs=>rtN (rS hs)
 ·try dsimp only at h
  refine RS.mS 1 [kB 6 false] (RS.dn (WS.nxt (WS.cF (WS.sq (WS.rg (RS.mS 3 [(16,.val (Value.pointer (some (Addr.add q1 0)))),kP 15 q1,kP 14 q1] ?_))))))
  obtain ⟨x4,hx,h⟩:=bind_some h
  refine RS.ld 17 153 (.tmp 16) (z1 hx z16) (RS.mS 1 [kP 18 q1] ?_)
  rcases x4 with _ | q5
  ·try dsimp only at h
   cases h
  ·try dsimp only at h
   obtain ⟨x6,hx,h⟩:=bind_some h
   refine RS.o (H':=H) (some 19) (Value.bool x6) (zlp hx z5n (by kernel_rfl) (by kernel_rfl)) (RS.dn (WS.nxt ?_))
   rcases z0 h with ⟨hp,h⟩ | ⟨hp,h⟩
   ·refine WS.fx 19 true hp (WS.cT ?_)
    cases h
   ·refine WS.fx 19 false (b_not hp) (WS.cF (WS.sk ?_))
    cases h
    exact fun a w hs=>rtN (rS hs)
def z79:(Int×Value×AH)→Value
 | (r0,r1,_)=>(Value.tuple #[(Value.int .i64 r0),r1])
def z89 (_:AH):(Int×Value×AH)→AH:=fun r=>r.2.2
noncomputable def B67:Code:=(Tryz.f67.body).getD .skip
noncomputable def z1p (L:LC) (m:Nat) (H:AH) (a0:Option Addr) (a1:ByteArray):Option (Int×Value×AH) :=
 Option.bind (z19 L m H a0) fun H1 =>
 Option.bind a0 fun q2 =>
 Option.bind (rd deSl H1 (Addr.add q2 1)) fun x3 =>
 Option.bind (gOp Tryz.prog m (opsOf (cfst (csnd (csnd B67)))) 6 [(12,.val (Sl3.v x3)),(13,.val (Value.string a1))] deSl H1) fun (x4,H5) =>
 Option.bind (H5.setCell m (Addr.add q2 1) (Sl3.v x4)) fun H6 =>
 some ((a1.size:Int),Value.nilIface,H6)
theorem z7r {L:LC} {m:Nat} {H:AH} {a0:Option Addr} {a1:ByteArray} {r:(Int×Value×AH)} (h:z1p L m H a0 a1=some r) :
  CallS Tryz.prog (NE.plain 114) m 67 #[(Value.pointer a0),(Value.string a1)] H (z79 r) (z89 H r):=by
 refine CallS.mk (args:=[(Value.pointer a0),(Value.string a1)]) Tryz.func67 (B:=B67) (by kernel_rfl) (fun E _=>?_)
 unfold z1p at h
 refine WS.sq (WS.rg (RS.mS 2 [(5,.val Value.nilIface),kI 4 0] (RS.dn (WS.nxt (WS.sq (WS.rg (RS.mS 1 [(6,.val (Value.pointer a0))] ?_)))))))
 obtain ⟨H1,hx,h⟩:=bind_some h
 refine RS.cl (some 7) (v:=(Value.tuple #[])) 95 #[(Value.pointer a0)] (z3e hx) (RS.dn (WS.nxt (WS.sq (WS.rg (RS.mS 2 [(9,.val (Value.pointer a0)),(8,.val (Value.pointer a0))] ?_)))))
 obtain ⟨q2,hx,hq2⟩:=bind_some h
 subst hx
 have h:=hq2
 refine RS.mS 2 [(11,.val (Value.pointer (some (Addr.add q2 1)))),kP 10 q2] ?_
 obtain ⟨x3,hx,h⟩:=bind_some h
 refine RS.ld 12 154 (.tmp 11) (z1 hx z3) (RS.mS 1 [kT 13 a1] ?_)
 obtain ⟨⟨x4,H5⟩,hx,h⟩:=bind_some h
 try dsimp only at h
 refine RS.o (H':=H5) (some 14) (Sl3.v x4) (ze0 hx z3 (by kernel_rfl)) (RS.mS 2 [(16,.val (Value.pointer (some (Addr.add q2 1)))),kP 15 q2] ?_)
 obtain ⟨H6,hx,h⟩:=bind_some h
 refine RS.o (H':=H6) none undef (Abs.run_store1 (t:=154) (x:=.tmp 16) (y:=.tmp 14) (a:=(Addr.add q2 1)) (v:=(Sl3.v x4)) (by kernel_rfl) (by kernel_rfl) (by kernel_rfl) (by kernel_rfl) (by kernel_rfl) hx) (RS.dn (WS.nxt (WS.sq (WS.rg (RS.mS 4 [(5,.val Value.nilIface),kI 4 (a1.size:Int),kI 18 (a1.size:Int),kT 17 a1] (RS.dn (WS.nxt (WS.rt ?_))))))))
 cases h
 exact fun a w hs=>rtR (rS hs)
def z8f:(Value×AH)→Value
 | (r0,_)=>r0
def z96 (_:AH):(Value×AH)→AH:=fun r=>r.2
noncomputable def B68:Code:=(Tryz.f68.body).getD .skip
noncomputable def z26 (L:LC) (m:Nat) (H:AH) (a0:Option Addr) (a1:Int):Option (Value×AH) :=
 Option.bind (z19 L m H a0) fun H1 =>
 Option.bind a0 fun q2 =>
 Option.bind (rd deSl H1 (Addr.add q2 1)) fun x3 =>
 Option.bind (newR 5 1 #[(Value.int .u8 a1)] H1) fun (s4,H5) =>
 Option.bind (appS m 5 1 1 H5 x3 s4) fun (s6,H7) =>
 Option.bind (H7.setCell m (Addr.add q2 1) (Sl3.v s6)) fun H8 =>
 some (Value.nilIface,H8)
theorem z8s {L:LC} {m:Nat} {H:AH} {a0:Option Addr} {a1:Int} {r:(Value×AH)} (h:z26 L m H a0 a1=some r) :
  CallS Tryz.prog (NE.plain 114) m 68 #[(Value.pointer a0),(Value.int .u8 a1)] H (z8f r) (z96 H r):=by
 refine CallS.mk (args:=[(Value.pointer a0),(Value.int .u8 a1)]) Tryz.func68 (B:=B68) (by kernel_rfl) (fun E _=>?_)
 unfold z26 at h
 refine WS.sq (WS.rg (RS.mS 1 [(4,.val Value.nilIface)] (RS.dn (WS.nxt (WS.sq (WS.rg (RS.mS 1 [(5,.val (Value.pointer a0))] ?_)))))))
 obtain ⟨H1,hx,h⟩:=bind_some h
 refine RS.cl (some 6) (v:=(Value.tuple #[])) 95 #[(Value.pointer a0)] (z3e hx) (RS.dn (WS.nxt (WS.sq (WS.rg (RS.mS 2 [(8,.val (Value.pointer a0)),(7,.val (Value.pointer a0))] ?_)))))
 obtain ⟨q2,hx,hq2⟩:=bind_some h
 subst hx
 have h:=hq2
 refine RS.mS 2 [(10,.val (Value.pointer (some (Addr.add q2 1)))),kP 9 q2] ?_
 obtain ⟨x3,hx,h⟩:=bind_some h
 refine RS.ld 11 154 (.tmp 10) (z1 hx z3) (RS.mS 1 [(12,.val (Value.int .u8 a1))] ?_)
 obtain ⟨⟨s4,H5⟩,hx,h⟩:=bind_some h
 try dsimp only at h
 refine RS.o (H':=H5) (some 13) (Sl3.v s4) (Abs.run_newR (by kernel_rfl) (by kernel_rfl) hx) ?_
 obtain ⟨⟨s6,H7⟩,hx,h⟩:=bind_some h
 try dsimp only at h
 refine RS.o (H':=H7) (some 14) (Sl3.v s6) (Abs.run_app (x:=.tmp 11) (y:=.tmp 13) (ts:=#[154,154]) (s:=x3) (z:=s4) (by kernel_rfl) (by kernel_rfl) (by kernel_rfl) (by kernel_rfl) hx) (RS.mS 2 [(16,.val (Value.pointer (some (Addr.add q2 1)))),kP 15 q2] ?_)
 obtain ⟨H8,hx,h⟩:=bind_some h
 refine RS.o (H':=H8) none undef (Abs.run_store1 (t:=154) (x:=.tmp 16) (y:=.tmp 14) (a:=(Addr.add q2 1)) (v:=(Sl3.v s6)) (by kernel_rfl) (by kernel_rfl) (by kernel_rfl) (by kernel_rfl) (by kernel_rfl) hx) (RS.dn (WS.nxt (WS.sq (WS.rg (RS.mS 1 [(4,.val Value.nilIface)] (RS.dn (WS.nxt (WS.rt ?_))))))))
 cases h
 exact fun a w hs=>rtR (rS hs)
def zk2:AH→Value
 | _=>(Value.tuple #[])
def zko (_:AH):AH→AH:=fun r=>r
noncomputable def B66:Code:=(Tryz.f66.body).getD .skip
noncomputable def zb5 (L:LC) (m:Nat) (H:AH) (a0:Int) (a1:Option Addr):Option AH :=
 Option.bind (z7h L m H a0) fun (x1,H2) =>
 Option.bind (z1p L m H2 a1 x1) fun (_,_,H5) =>
 Option.bind (z26 L m H5 a1 32) fun (_,H7) =>
 some H7
theorem zfk {L:LC} {m:Nat} {H:AH} {a0:Int} {a1:Option Addr} {r:AH} (h:zb5 L m H a0 a1=some r) :
  CallS Tryz.prog (NE.plain 114) m 66 #[(Value.int .i64 a0),(Value.pointer a1)] H (zk2 r) (zko H r):=by
 refine CallS.mk (args:=[(Value.int .i64 a0),(Value.pointer a1)]) Tryz.func66 (B:=B66) (by kernel_rfl) (fun E _=>?_)
 unfold zb5 at h
 refine WS.sq (WS.rg (RS.mS 1 [kI 3 a0] ?_))
 obtain ⟨⟨x1,H2⟩,hx,h⟩:=bind_some h
 try dsimp only at h
 refine RS.cl (some 4) (v:=(Value.string x1)) 47 #[(Value.int .i64 a0)] (zcq hx) ?_
 obtain ⟨⟨x3,x4,H5⟩,hx,h⟩:=bind_some h
 try dsimp only at h
 refine RS.cl (some 5) (v:=(Value.tuple #[(Value.int .i64 x3),x4])) 67 #[(Value.pointer a1),(Value.string x1)] (z7r hx) (RS.dn (WS.nxt (WS.rg ?_)))
 obtain ⟨⟨x6,H7⟩,hx,h⟩:=bind_some h
 try dsimp only at h
 refine RS.cl (some 6) (v:=x6) 68 #[(Value.pointer a1),(Value.int .u8 32)] (z8s hx) (RS.dn ?_)
 cases h
 exact fun a w hs=>rtN (rS hs)
def zam:(ByteArray×AH)→Value
 | (r0,_)=>(Value.string r0)
def zb1 (_:AH):(ByteArray×AH)→AH:=fun r=>r.2
noncomputable def B72:Code:=(Tryz.f72.body).getD .skip
noncomputable def z2z (_L:LC) (m:Nat) (H:AH) (a0:Option Addr):Option (ByteArray×AH) :=
 Option.bind a0 fun q1 =>
 Option.bind (rd deSl H (Addr.add q1 1)) fun x2 =>
 Option.bind (rd deSl H (Addr.add q1 1)) fun x3 =>
 Option.bind (gOp1 Tryz.prog (opsOf (cfst (csnd B72))) 4 [(6,.val (Sl3.v x2))] deP H) fun x4 =>
 Option.bind (gOp Tryz.prog m (opsOf (cfst (csnd B72))) 10 [(7,.val (Value.pointer x4)),(12,.val (Value.int .i64 (x3.n:Int)))] deS H) fun (x5,H6) =>
 some (x5,H6)
theorem z4i {L:LC} {m:Nat} {H:AH} {a0:Option Addr} {r:(ByteArray×AH)} (h:z2z L m H a0=some r) :
  CallS Tryz.prog (NE.plain 114) m 72 #[(Value.pointer a0)] H (zam r) (zb1 H r):=by
 refine CallS.mk (args:=[(Value.pointer a0)]) Tryz.func72 (B:=B72) (by kernel_rfl) (fun E _=>?_)
 unfold z2z at h
 refine WS.sq (WS.rg (RS.mS 1 [kT 2 (⟨#[]⟩:ByteArray)] (RS.dn (WS.nxt (WS.sq ?_)))))
 refine WS.dr [0,1,2,3,5,6,7,8] [0,1,3,7,15,0,32,96,224,480,1023,2047] 12 (fun hcl=>?_)
 refine DA.tK 0 (some 3) (Value.pointer a0) ?_
 obtain ⟨q1,hx,hq1⟩:=bind_some h
 subst hx
 have h:=hq1
 refine DA.tK 1 (some 4) (Value.pointer (some q1)) (DA.tK 2 (some 5) (Value.pointer (some (Addr.add q1 1))) ?_)
 obtain ⟨x2,hx,h⟩:=bind_some h
 refine DA.tD 3 (some 6) (Sl3.v x2) (Abs.det_load (t:=154) (x:=.tmp 5) (a:=(Addr.add q1 1)) (by kernel_rfl) (by kernel_rfl) (by kernel_rfl) (by kernel_rfl) (z1 hx z3)) (DA.tK 5 (some 8) (Value.pointer (some q1)) (DA.tK 6 (some 9) (Value.pointer (some q1)) (DA.tK 7 (some 10) (Value.pointer (some (Addr.add q1 1))) ?_)))
 obtain ⟨x3,hx,h⟩:=bind_some h
 refine DA.tD 8 (some 11) (Sl3.v x3) (Abs.det_load (t:=154) (x:=.tmp 10) (a:=(Addr.add q1 1)) (by kernel_rfl) (by kernel_rfl) (by kernel_rfl) (by kernel_rfl) (z1 hx z3)) (DA.restart [0,1,2,3,5,6,7,8,9] (by kernel_rfl) (DA.tK 9 (some 12) (Value.int .i64 (x3.n:Int)) ?_))
 obtain ⟨x4,hx,h⟩:=bind_some h
 refine DA.on 4 (DA.aHj (H':=H) 4 (some 7) false (Value.pointer x4) (zlp hx z16 (by kernel_rfl) (by kernel_rfl)) ?_)
 obtain ⟨⟨x5,H6⟩,hx,h⟩:=bind_some h
 try dsimp only at h
 refine DA.on 10 (DA.aH (H':=H6) 10 (some 13) (Value.string x5) (ze0 hx z9 (by kernel_rfl)) (DA.tP 11 (some 2) (Value.string x5) (DA.dn (WS.nxt (WS.rt ?_)))))
 cases h
 exact fun a w hs=>rtR (rS hs)
end Go.Proofs.YthhbfmgipdbilaaGreatDoor
namespace Go.Proofs.YthhbfmgipdbilaaGreatDoor
open Go Go.Abs
set_option maxRecDepth 100000
def zb8:(ByteArray×AH)→Value
 | (r0,_)=>(Value.string r0)
def zda (_:AH):(ByteArray×AH)→AH:=fun r=>r.2
noncomputable def B43:Code:=(Tryz.f43.body).getD .skip
noncomputable def zdb (L:LC) (m:Nat) (_a0_0:Int) (_a0_1:ByteArray) (_a0_2:Bool) (_a0_3:Sl3) (_a0_4:Int) (_a0_5:Sl3) (_a0_6 _a0_7:Int) (_a0_8:ByteArray) (_a0_9 _a0_10 a0_11:Sl3) (p1:Addr):(AH×Int)→Option (Lp (AH×Int) (ByteArray×AH)):=fun (H4,v23_5) =>
 if v23_5<(a0_11.n:Int) then
  Option.bind (idxA 1 a0_11 v23_5) fun p6 =>
  Option.bind (rd (deI .i64) H4 p6) fun x7 =>
  Option.bind (zb5 L m H4 x7 (some p1)) fun H8 =>
  some (.next (H8,(IntKind.i64.wrap (v23_5+1))))
 else
  some (.brk (H4,v23_5))
def zjx (_L:LC) (_m:Nat) (a0_0:Int) (a0_1:ByteArray) (a0_2:Bool) (a0_3:Sl3) (a0_4:Int) (a0_5:Sl3) (a0_6 a0_7:Int) (a0_8:ByteArray) (a0_9 a0_10 a0_11:Sl3) (p1:Addr):(AH×Int)→KN×Lcs:=fun (_,v23_5)=>([kI 23 v23_5,kL 1 0 0,kP 3 p1,(4,.val (Value.func (.func 66) #[] #[(Value.pointer (some p1))])),kS 21 a0_11,kI 22 (a0_11.n:Int)],[some (73,[(Value.int .i64 a0_0),(Value.string a0_1),(Value.bool a0_2),(Sl3.v a0_3),(Value.int .i64 a0_4),(Sl3.v a0_5),(Value.int .i64 a0_6),(Value.int .i64 a0_7),(Value.string a0_8),(Sl3.v a0_9),(Sl3.v a0_10),(Sl3.v a0_11)])])
noncomputable def zd3 (_L:LC) (_a0_0:Int) (_a0_1:ByteArray) (_a0_2:Bool) (_a0_3:Sl3) (_a0_4:Int) (_a0_5:Sl3) (_a0_6 _a0_7:Int) (_a0_8:ByteArray) (_a0_9 a0_10 _a0_11:Sl3) (_p1:Addr):(AH×Int)→Option (Lp (AH×Int) (ByteArray×AH)):=fun (H11,v34_12) =>
 if v34_12<(a0_10.n:Int) then
  none
 else
  some (.brk (H11,v34_12))
def zjr (_L:LC) (a0_0:Int) (a0_1:ByteArray) (a0_2:Bool) (a0_3:Sl3) (a0_4:Int) (a0_5:Sl3) (a0_6 a0_7:Int) (a0_8:ByteArray) (a0_9 a0_10 a0_11:Sl3) (p1:Addr):(AH×Int)→KN×Lcs:=fun (_,v34_12)=>([kI 34 v34_12,kL 1 0 0,kP 3 p1,(4,.val (Value.func (.func 66) #[] #[(Value.pointer (some p1))])),kS 32 a0_10,kI 33 (a0_10.n:Int)],[some (73,[(Value.int .i64 a0_0),(Value.string a0_1),(Value.bool a0_2),(Sl3.v a0_3),(Value.int .i64 a0_4),(Sl3.v a0_5),(Value.int .i64 a0_6),(Value.int .i64 a0_7),(Value.string a0_8),(Sl3.v a0_9),(Sl3.v a0_10),(Sl3.v a0_11)])])
noncomputable def zij (L:LC) (m:Nat) (H:AH) (a0_0:Int) (a0_1:ByteArray) (a0_2:Bool) (a0_3:Sl3) (a0_4:Int) (a0_5:Sl3) (a0_6 a0_7:Int) (a0_8:ByteArray) (a0_9 a0_10 a0_11:Sl3):Option (ByteArray×AH) :=
 Option.bind (newB 156 [(Value.pointer none),(Sl3.v Sl3.nil)] H) fun (p1,H2) =>
 Option.bind (zb5 L m H2 a0_0 (some p1)) fun H3 =>
 Option.bind (L.run (zdb L m a0_0 a0_1 a0_2 a0_3 a0_4 a0_5 a0_6 a0_7 a0_8 a0_9 a0_10 a0_11 p1) (H3,0)) fun o=>match o with
 | .inl (H9,_) =>
  Option.bind (L.run (zd3 L a0_0 a0_1 a0_2 a0_3 a0_4 a0_5 a0_6 a0_7 a0_8 a0_9 a0_10 a0_11 p1) (H9,0)) fun o=>match o with
  | .inl (H13,_) =>
   if a0_0=20 then
    none
   else
    if a0_0=40 then
     none
    else
     if a0_0=34 then
      none
     else
      Option.bind (z2z L m H13 (some p1)) fun (x15,H16) =>
      Option.bind (strcat x15 a0_1) fun s17 =>
      some (s17,H16)
  | .inr r=>some r
 | .inr r=>some r
theorem zdx {E H L m a0_0 a0_1 a0_2 a0_3 a0_4 a0_5 a0_6 a0_7 a0_8 a0_9 a0_10 a0_11 p1} :LoopF Tryz.prog (NE.plain 114) m E Tryz.f43 ((cfst (csnd (cfst (csnd (csnd (csnd (csnd B43)))))))) (zjx L m a0_0 a0_1 a0_2 a0_3 a0_4 a0_5 a0_6 a0_7 a0_8 a0_9 a0_10 a0_11 p1) (fun s=>s.1) 0 zb8 (zda H) (zdb L m a0_0 a0_1 a0_2 a0_3 a0_4 a0_5 a0_6 a0_7 a0_8 a0_9 a0_10 a0_11 p1):=by
 rintro ⟨H4,v23_5⟩ o h
 unfold zdb at h
 try dsimp only at h
 refine WS.sq (WS.rg (RS.mS 1 [kB 24 (decide (v23_5<(a0_11.n:Int)))] (RS.dn (WS.nxt (WS.sq ?_)))))
 rcases z0 h with ⟨hp,h⟩ | ⟨hp,h⟩
 ·refine WS.fx 24 true (decide_eq_true hp) (WS.cT (WS.sk (WS.nxt (WS.sq (WS.bk 1 (WS.sq (WS.rg ?_)))))))
  obtain ⟨p6,hx,h⟩:=bind_some h
  refine RS.ix 25 22 3 (.tmp 21) (.tmp 23) hx ?_
  obtain ⟨x7,hx,h⟩:=bind_some h
  refine RS.ld 26 3 (.tmp 25) (z1 hx z8) (RS.mS 1 [kI 6 x7] (RS.dn (WS.nxt (WS.rg (RS.mS 2 [kI 28 x7,(27,.val (Value.func (.func 66) #[] #[(Value.pointer (some p1))]))] ?_)))))
  obtain ⟨H8,hx,h⟩:=bind_some h
  refine RS.cl (some 29) (v:=(Value.tuple #[])) 66 #[(Value.int .i64 x7),(Value.pointer (some p1))] (zfk hx) (RS.dn ?_)
  refine fun a w hs=>bkN ((WS.nxt ?_ a w hs))
  refine WS.rg (RS.mS 2 [kI 23 (IntKind.i64.wrap (v23_5+1)),kI 30 (IntKind.i64.wrap (v23_5+1))] (RS.dn ?_))
  cases h
  exact fun a w hs=>lsN rfl (hs.sb 1)
 ·refine WS.fx 24 false (decide_eq_false hp) (WS.cF (WS.ex 0 ?_))
  cases h
  exact fun a w hs=>sqE (lsB rfl (hs.sb 1))
theorem zdv {E m H L a0_0 a0_1 a0_2 a0_3 a0_4 a0_5 a0_6 a0_7 a0_8 a0_9 a0_10 a0_11 p1} :LoopF Tryz.prog (NE.plain 114) m E Tryz.f43 ((cfst (csnd (cfst (csnd (csnd (csnd (csnd (csnd B43))))))))) (zjr L a0_0 a0_1 a0_2 a0_3 a0_4 a0_5 a0_6 a0_7 a0_8 a0_9 a0_10 a0_11 p1) (fun s=>s.1) 2 zb8 (zda H) (zd3 L a0_0 a0_1 a0_2 a0_3 a0_4 a0_5 a0_6 a0_7 a0_8 a0_9 a0_10 a0_11 p1):=by
 rintro ⟨H11,v34_12⟩ o h
 unfold zd3 at h
 try dsimp only at h
 refine WS.sq (WS.rg (RS.mS 1 [kB 35 (decide (v34_12<(a0_10.n:Int)))] (RS.dn (WS.nxt (WS.sq ?_)))))
 rcases z0 h with ⟨hp,h⟩ | ⟨hp,h⟩
 ·refine WS.fx 35 true (decide_eq_true hp) (WS.cT ?_)
  cases h
 ·refine WS.fx 35 false (decide_eq_false hp) (WS.cF (WS.ex 2 ?_))
  cases h
  exact fun a w hs=>sqE (lsB rfl (hs.sb 1))
theorem zml {L:LC} {m:Nat} {H:AH} {a0_0:Int} {a0_1:ByteArray} {a0_2:Bool} {a0_3:Sl3} {a0_4:Int} {a0_5:Sl3} {a0_6 a0_7:Int} {a0_8:ByteArray} {a0_9 a0_10 a0_11:Sl3} {r:(ByteArray×AH)} (h:zij L m H a0_0 a0_1 a0_2 a0_3 a0_4 a0_5 a0_6 a0_7 a0_8 a0_9 a0_10 a0_11=some r) :
  CallS Tryz.prog (NE.plain 114) m 43 #[(Value.agg #[(Value.int .i64 a0_0),(Value.string a0_1),(Value.bool a0_2),(Sl3.v a0_3),(Value.int .i64 a0_4),(Sl3.v a0_5),(Value.int .i64 a0_6),(Value.int .i64 a0_7),(Value.string a0_8),(Sl3.v a0_9),(Sl3.v a0_10),(Sl3.v a0_11)])] H (zb8 r) (zda H r):=by
 refine CallS.mk (args:=[(Value.agg #[(Value.int .i64 a0_0),(Value.string a0_1),(Value.bool a0_2),(Sl3.v a0_3),(Value.int .i64 a0_4),(Sl3.v a0_5),(Value.int .i64 a0_6),(Value.int .i64 a0_7),(Value.string a0_8),(Sl3.v a0_9),(Sl3.v a0_10),(Sl3.v a0_11)])]) Tryz.func43 (B:=B43) (by kernel_rfl) (fun E _=>?_)
 unfold zij at h
 refine WS.sq (WS.rg (RS.mL 2 [kT 2 (⟨#[]⟩:ByteArray),kL 1 0 0] ([some (73,[(Value.int .i64 a0_0),(Value.string a0_1),(Value.bool a0_2),(Sl3.v a0_3),(Value.int .i64 a0_4),(Sl3.v a0_5),(Value.int .i64 a0_6),(Value.int .i64 a0_7),(Value.string a0_8),(Sl3.v a0_9),(Sl3.v a0_10),(Sl3.v a0_11)])]) (RS.dn (WS.nxt (WS.sq (WS.rg ?_))))))
 obtain ⟨⟨p1,H2⟩,hx,h⟩:=bind_some h
 try dsimp only at h
 refine RS.o (H':=H2) (some 3) (Value.pointer (some p1)) (Abs.run_newB (by kernel_rfl) hx) (RS.dn (WS.nxt (WS.sq (WS.rg (RS.mS 2 [(4,.val (Value.func (.func 66) #[] #[(Value.pointer (some p1))])),(15,.val (Value.func (.func 66) #[] #[(Value.pointer (some p1))]))] (RS.dn (WS.nxt (WS.sq (WS.rg ?_)))))))))
 refine RS.mS 3 [kI 18 a0_0,kL 17 0 0,(16,.val (Value.func (.func 66) #[] #[(Value.pointer (some p1))]))] ?_
 obtain ⟨H3,hx,h⟩:=bind_some h
 refine RS.cl (some 19) (v:=(Value.tuple #[])) 66 #[(Value.int .i64 a0_0),(Value.pointer (some p1))] (zfk hx) (RS.dn (WS.nxt (WS.sq (WS.sq (WS.rg (RS.mS 4 [kI 23 0,kI 22 (a0_11.n:Int),kS 21 a0_11,kL 20 0 11] (RS.dn (WS.nxt (WS.bk 0 ?_)))))))))
 obtain ⟨o,hl,h⟩:=bind_some h
 rcases o with ⟨H9,v23_10⟩ | r
 ·try dsimp only at h
  refine WS.lI (zdx (L:=L) (E:=E) (m:=m) (H:=H)) (L.ok hl) 1 ?_
  clear hl
  refine fun a w hs=>bkE ((WS.nxt ?_ a w hs))
  refine WS.sq (WS.sq (WS.rg (RS.mS 4 [kI 34 0,kI 33 (a0_10.n:Int),kS 32 a0_10,kL 31 0 10] (RS.dn (WS.nxt (WS.bk 2 ?_))))))
  obtain ⟨o,hl,h⟩:=bind_some h
  rcases o with ⟨H13,v34_14⟩ | r
  ·try dsimp only at h
   refine WS.lI (zdv (L:=L) (E:=E) (m:=m) (H:=H)) (L.ok hl) 1 ?_
   clear hl
   refine fun a w hs=>bkE ((WS.nxt ?_ a w hs))
   refine WS.sq (WS.sq (WS.rg (RS.mS 2 [kI 43 a0_0,kL 42 0 0] (RS.dn (WS.nxt (WS.bk 4 (WS.sq (WS.rg (RS.mS 2 [kB 44 (decide (a0_0=20)),kB 45 (decide (a0_0=20))] ?_)))))))))
   refine RS.dn (WS.nxt ?_)
   rcases z0 h with ⟨hp,h⟩ | ⟨hp,h⟩
   ·refine WS.fx 44 true (decide_eq_true hp) (WS.cT ?_)
    cases h
   ·refine WS.fx 44 false (decide_eq_false hp) (WS.cF (WS.sq (WS.rg (RS.mS 2 [kB 64 (decide (a0_0=40)),kB 65 (decide (a0_0=40))] (RS.dn (WS.nxt ?_))))))
    rcases z0 h with ⟨hp,h⟩ | ⟨hp,h⟩
    ·refine WS.fx 64 true (decide_eq_true hp) (WS.cT ?_)
     cases h
    ·refine WS.fx 64 false (decide_eq_false hp) (WS.cF (WS.sq (WS.rg (RS.mS 2 [kB 84 (decide (a0_0=34)),kB 85 (decide (a0_0=34))] (RS.dn (WS.nxt ?_))))))
     rcases z0 h with ⟨hp,h⟩ | ⟨hp,h⟩
     ·refine WS.fx 84 true (decide_eq_true hp) (WS.cT ?_)
      cases h
     ·refine WS.fx 84 false (decide_eq_false hp) (WS.cF (WS.sk ?_))
      refine fun a w hs=>bkN ((WS.nxt ?_ a w hs))
      refine WS.sq ?_
      obtain ⟨⟨x15,H16⟩,hx_0,h⟩:=bind_some h
      try dsimp only at h
      obtain ⟨s17,hx_3,h⟩:=bind_some h
      refine WS.toone ([kT 2 s17]) ([some (73,[(Value.int .i64 a0_0),(Value.string a0_1),(Value.bool a0_2),(Sl3.v a0_3),(Value.int .i64 a0_4),(Sl3.v a0_5),(Value.int .i64 a0_6),(Value.int .i64 a0_7),(Value.string a0_8),(Sl3.v a0_9),(Sl3.v a0_10),(Sl3.v a0_11)])]) H16 ?_ ?_
      ·clear h
       refine WS.dr [] [0,0,2,7,15] 5 (fun hcl=>?_)
       refine DA.tPL 1 (some 95) (.loc 0 1) ?_
       refine DA.two 0 2 (by kernel_rfl) ?_ ?_
       ·refine DA.aC 0 (some 94) (v:=(Value.string x15)) 72 #[(Value.pointer (some p1))] (z4i hx_0) (DA.on 2 (DA.aL 2 (some 96) (.val (Value.string a0_1)) ([some (73,[(Value.int .i64 a0_0),(Value.string a0_1),(Value.bool a0_2),(Sl3.v a0_3),(Value.int .i64 a0_4),(Sl3.v a0_5),(Value.int .i64 a0_6),(Value.int .i64 a0_7),(Value.string a0_8),(Sl3.v a0_9),(Sl3.v a0_10),(Sl3.v a0_11)])]) false (DA.tPx 3 (some 97) (Value.string s17) (Abs.det_strcat (t:=9) (u:=9) (x:=.tmp 94) (y:=.tmp 96) (a:=x15) (b:=a0_1) (by kernel_rfl) (by kernel_rfl) (by kernel_rfl) hx_3) (DA.tP 4 (some 2) (Value.string s17) (DA.dn ?_)))))
        exact fun a w hs=>jsN (hs.sb 1)
       ·refine DA.aL 2 (some 96) (.val (Value.string a0_1)) ([some (73,[(Value.int .i64 a0_0),(Value.string a0_1),(Value.bool a0_2),(Sl3.v a0_3),(Value.int .i64 a0_4),(Sl3.v a0_5),(Value.int .i64 a0_6),(Value.int .i64 a0_7),(Value.string a0_8),(Sl3.v a0_9),(Sl3.v a0_10),(Sl3.v a0_11)])]) false (DA.on 0 (DA.aC 0 (some 94) (v:=(Value.string x15)) 72 #[(Value.pointer (some p1))] (z4i hx_0) (DA.tPx 3 (some 97) (Value.string s17) (Abs.det_strcat (t:=9) (u:=9) (x:=.tmp 94) (y:=.tmp 96) (a:=x15) (b:=a0_1) (by kernel_rfl) (by kernel_rfl) (by kernel_rfl) hx_3) (DA.tP 4 (some 2) (Value.string s17) (DA.dn ?_)))))
        exact fun a w hs=>jsN (hs.sb 1)
      ·refine WS.nxt (WS.rt ?_)
       cases h
       exact fun a w hs=>rtR (rS hs)
  ·try dsimp only at h
   refine WS.lR (zdv (L:=L) (E:=E) (m:=m) (H:=H)) (L.ok hl) 1 ?_
   cases h
   exact fun a w hq=>bkR (sqR (rtR hq))
 ·try dsimp only at h
  refine WS.lR (zdx (L:=L) (E:=E) (m:=m) (H:=H)) (L.ok hl) 1 ?_
  cases h
  exact fun a w hq=>bkR (sqR (rtR hq))
def zgo:(Int×Int×AH)→Value
 | (r0,r1,_)=>(Value.tuple #[(Value.int .i64 r0),(Value.int .i64 r1)])
def zhk (_:AH):(Int×Int×AH)→AH:=fun r=>r.2.2
noncomputable def B23:Code:=(Tryz.f23.body).getD .skip
noncomputable def z3i (L:LC) (m:Nat) (H:AH) (a0:Option Addr) (a1_0:Int) (a1_1:ByteArray) (a1_2:Bool) (a1_3:Sl3) (a1_4:Int) (a1_5:Sl3) (a1_6 a1_7:Int) (a1_8:ByteArray) (a1_9 a1_10 a1_11:Sl3):Option (Int×Int×AH) :=
 Option.bind (z12 L H a0) fun x1 =>
 if x1=true then
  Option.bind (z6t L m H a0 a1_0 a1_1 a1_2 a1_3 a1_4 a1_5 a1_6 a1_7 a1_8 a1_9 a1_10 a1_11) fun (x2_0,x2_1,x2_2,x2_3,x3,H4) =>
  if x3=0 then
   Option.bind (zb2 L m H4 a1_0 a1_1 a1_2 a1_3 a1_4 a1_5 a1_6 a1_7 a1_8 a1_9 a1_10 a1_11) fun (x5_0,x5_1,x5_2,x5_3,x5_4,x5_5,x5_6,x5_7,x5_8,x5_9,x5_10,x5_11,H6) =>
   Option.bind (zij L m H6 x5_0 x5_1 x5_2 x5_3 x5_4 x5_5 x5_6 x5_7 x5_8 x5_9 x5_10 x5_11) fun (x7,H8) =>
   Option.bind a0 fun q9 =>
   Option.bind (rd deM H8 (Addr.add q9 4)) fun x10 =>
   Option.bind (lkM Tryz.prog 34 (deI .i64) H8 x10 (Value.string x7)) fun (x11,b12) =>
   if b12=true then
    some (x11,0,H8)
   else
    Option.bind (rd deSl H8 (Addr.add q9 3)) fun x13 =>
    if (x13.n:Int)≥1048576 then
     none
    else
     Option.bind (rd deM H8 (Addr.add q9 4)) fun x14 =>
     Option.bind (rd deSl H8 (Addr.add q9 3)) fun x15 =>
     Option.bind (upM Tryz.prog m 34 H8 x14 (Value.string x7) (Value.int .i64 (x15.n:Int))) fun H16 =>
     Option.bind (rd deSl H16 (Addr.add q9 3)) fun x17 =>
     Option.bind (z6q L (Nat.max m H16.next) H16 x2_0 x2_1 x2_2 x2_3) fun (x18_0,x18_1,x18_2,x18_3,H19) =>
     Option.bind (newS 100 [(Value.int .i64 x5_0),(Value.string x5_1),(Value.bool x5_2),(Sl3.v x5_3),(Value.int .i64 x5_4),(Sl3.v x5_5),(Value.int .i64 x5_6),(Value.int .i64 x5_7),(Value.string x5_8),(Sl3.v x5_9),(Sl3.v x5_10),(Sl3.v x5_11),(Value.int .i64 x18_0),(Value.int .i64 x18_1),(Value.string x18_2),(Sl3.v x18_3)] H19) fun (k20,H21) =>
     Option.bind (appS m 100 16 248 H21 x17 (⟨some ⟨k20,0,none⟩,1,1⟩:Sl3)) fun (s22,H23) =>
     Option.bind (H23.setCell m (Addr.add q9 3) (Sl3.v s22)) fun H24 =>
     Option.bind (rd deSl H24 (Addr.add q9 3)) fun x25 =>
     some ((IntKind.i64.wrap ((x25.n:Int) - 1)),0,H24)
  else
   some (0,x3,H4)
 else
  some (0,4,H)
theorem z66 {L:LC} {m:Nat} {H:AH} {a0:Option Addr} {a1_0:Int} {a1_1:ByteArray} {a1_2:Bool} {a1_3:Sl3} {a1_4:Int} {a1_5:Sl3} {a1_6 a1_7:Int} {a1_8:ByteArray} {a1_9 a1_10 a1_11:Sl3} {r:(Int×Int×AH)} (h:z3i L m H a0 a1_0 a1_1 a1_2 a1_3 a1_4 a1_5 a1_6 a1_7 a1_8 a1_9 a1_10 a1_11=some r) :
  CallS Tryz.prog (NE.plain 114) m 23 #[(Value.pointer a0),(Value.agg #[(Value.int .i64 a1_0),(Value.string a1_1),(Value.bool a1_2),(Sl3.v a1_3),(Value.int .i64 a1_4),(Sl3.v a1_5),(Value.int .i64 a1_6),(Value.int .i64 a1_7),(Value.string a1_8),(Sl3.v a1_9),(Sl3.v a1_10),(Sl3.v a1_11)])] H (zgo r) (zhk H r):=by
 refine CallS.mk (args:=[(Value.pointer a0),(Value.agg #[(Value.int .i64 a1_0),(Value.string a1_1),(Value.bool a1_2),(Sl3.v a1_3),(Value.int .i64 a1_4),(Sl3.v a1_5),(Value.int .i64 a1_6),(Value.int .i64 a1_7),(Value.string a1_8),(Sl3.v a1_9),(Sl3.v a1_10),(Sl3.v a1_11)])]) Tryz.func23 (B:=B23) (by kernel_rfl) (fun E _=>?_)
 unfold z3i at h
 refine WS.sq (WS.rg (RS.mL 3 [kI 5 0,kI 4 0,kL 3 0 0] ([some (73,[(Value.int .i64 a1_0),(Value.string a1_1),(Value.bool a1_2),(Sl3.v a1_3),(Value.int .i64 a1_4),(Sl3.v a1_5),(Value.int .i64 a1_6),(Value.int .i64 a1_7),(Value.string a1_8),(Sl3.v a1_9),(Sl3.v a1_10),(Sl3.v a1_11)])]) (RS.dn (WS.nxt (WS.sq (WS.sq (WS.rg (RS.mS 1 [(12,.val (Value.pointer a0))] ?_))))))))
 obtain ⟨x1,hx,h⟩:=bind_some h
 refine RS.cl (some 13) (v:=(Value.bool x1)) 25 #[(Value.pointer a0)] (z18 hx) (RS.mS 1 [kB 14 (!x1)] (RS.dn (WS.nxt ?_)))
 rcases z0 h with ⟨hp,h⟩ | ⟨hp,h⟩
 ·refine WS.fx 14 false (nb_not hp) (WS.cF (WS.sk (WS.nxt (WS.sq (WS.rg (RS.mS 2 [kA 17 #[(Value.int .i64 a1_0),(Value.string a1_1),(Value.bool a1_2),(Sl3.v a1_3),(Value.int .i64 a1_4),(Sl3.v a1_5),(Value.int .i64 a1_6),(Value.int .i64 a1_7),(Value.string a1_8),(Sl3.v a1_9),(Sl3.v a1_10),(Sl3.v a1_11)],(16,.val (Value.pointer a0))] ?_))))))
  obtain ⟨⟨x2_0,x2_1,x2_2,x2_3,x3,H4⟩,hx,h⟩:=bind_some h
  try dsimp only at h
  refine RS.cl (some 18) (v:=(Value.tuple #[(Value.agg #[(Value.int .i64 x2_0),(Value.int .i64 x2_1),(Value.string x2_2),(Sl3.v x2_3)]),(Value.int .i64 x3)])) 42 #[(Value.pointer a0),(Value.agg #[(Value.int .i64 a1_0),(Value.string a1_1),(Value.bool a1_2),(Sl3.v a1_3),(Value.int .i64 a1_4),(Sl3.v a1_5),(Value.int .i64 a1_6),(Value.int .i64 a1_7),(Value.string a1_8),(Sl3.v a1_9),(Sl3.v a1_10),(Sl3.v a1_11)])] (zfx hx) (RS.mL 6 [kI 7 x3,kL 6 1 0,kI 20 x3,kA 19 #[(Value.int .i64 x2_0),(Value.int .i64 x2_1),(Value.string x2_2),(Sl3.v x2_3)],(15,.val (Value.tuple #[(Value.agg #[(Value.int .i64 x2_0),(Value.int .i64 x2_1),(Value.string x2_2),(Sl3.v x2_3)]),(Value.int .i64 x3)]))] ([some (73,[(Value.int .i64 a1_0),(Value.string a1_1),(Value.bool a1_2),(Sl3.v a1_3),(Value.int .i64 a1_4),(Sl3.v a1_5),(Value.int .i64 a1_6),(Value.int .i64 a1_7),(Value.string a1_8),(Sl3.v a1_9),(Sl3.v a1_10),(Sl3.v a1_11)]),some (59,[(Value.int .i64 x2_0),(Value.int .i64 x2_1),(Value.string x2_2),(Sl3.v x2_3)])]) (RS.dn (WS.nxt (WS.sq (WS.sq (WS.rg (RS.mS 2 [kB 22 (!decide (x3=0)),kI 21 x3] (RS.dn (WS.nxt ?_)))))))))
  rcases z0 h with ⟨hp,h⟩ | ⟨hp,h⟩
  ·refine WS.fx 22 false (z2b hp) (WS.cF (WS.sk (WS.nxt (WS.sq (WS.rg (RS.mS 1 [kA 24 #[(Value.int .i64 a1_0),(Value.string a1_1),(Value.bool a1_2),(Sl3.v a1_3),(Value.int .i64 a1_4),(Sl3.v a1_5),(Value.int .i64 a1_6),(Value.int .i64 a1_7),(Value.string a1_8),(Sl3.v a1_9),(Sl3.v a1_10),(Sl3.v a1_11)]] ?_))))))
   obtain ⟨⟨x5_0,x5_1,x5_2,x5_3,x5_4,x5_5,x5_6,x5_7,x5_8,x5_9,x5_10,x5_11,H6⟩,hx,h⟩:=bind_some h
   try dsimp only at h
   refine RS.cl (some 25) (v:=(Value.agg #[(Value.int .i64 x5_0),(Value.string x5_1),(Value.bool x5_2),(Sl3.v x5_3),(Value.int .i64 x5_4),(Sl3.v x5_5),(Value.int .i64 x5_6),(Value.int .i64 x5_7),(Value.string x5_8),(Sl3.v x5_9),(Sl3.v x5_10),(Sl3.v x5_11)])) 29 #[(Value.agg #[(Value.int .i64 a1_0),(Value.string a1_1),(Value.bool a1_2),(Sl3.v a1_3),(Value.int .i64 a1_4),(Sl3.v a1_5),(Value.int .i64 a1_6),(Value.int .i64 a1_7),(Value.string a1_8),(Sl3.v a1_9),(Sl3.v a1_10),(Sl3.v a1_11)])] (zfo hx) (RS.mL 2 [kL 8 2 0] ([some (73,[(Value.int .i64 a1_0),(Value.string a1_1),(Value.bool a1_2),(Sl3.v a1_3),(Value.int .i64 a1_4),(Sl3.v a1_5),(Value.int .i64 a1_6),(Value.int .i64 a1_7),(Value.string a1_8),(Sl3.v a1_9),(Sl3.v a1_10),(Sl3.v a1_11)]),some (59,[(Value.int .i64 x2_0),(Value.int .i64 x2_1),(Value.string x2_2),(Sl3.v x2_3)]),some (73,[(Value.int .i64 x5_0),(Value.string x5_1),(Value.bool x5_2),(Sl3.v x5_3),(Value.int .i64 x5_4),(Sl3.v x5_5),(Value.int .i64 x5_6),(Value.int .i64 x5_7),(Value.string x5_8),(Sl3.v x5_9),(Sl3.v x5_10),(Sl3.v x5_11)])]) (RS.dn (WS.nxt (WS.sq (WS.rg (RS.mS 1 [kA 26 #[(Value.int .i64 x5_0),(Value.string x5_1),(Value.bool x5_2),(Sl3.v x5_3),(Value.int .i64 x5_4),(Sl3.v x5_5),(Value.int .i64 x5_6),(Value.int .i64 x5_7),(Value.string x5_8),(Sl3.v x5_9),(Sl3.v x5_10),(Sl3.v x5_11)]] ?_))))))
   obtain ⟨⟨x7,H8⟩,hx,h⟩:=bind_some h
   try dsimp only at h
   refine RS.cl (some 27) (v:=(Value.string x7)) 43 #[(Value.agg #[(Value.int .i64 x5_0),(Value.string x5_1),(Value.bool x5_2),(Sl3.v x5_3),(Value.int .i64 x5_4),(Sl3.v x5_5),(Value.int .i64 x5_6),(Value.int .i64 x5_7),(Value.string x5_8),(Sl3.v x5_9),(Sl3.v x5_10),(Sl3.v x5_11)])] (zml hx) (RS.mS 1 [kT 9 x7] (RS.dn (WS.nxt (WS.sq (WS.sq (WS.rg (RS.mS 1 [(29,.val (Value.pointer a0))] ?_)))))))
   obtain ⟨q9,hx,hq9⟩:=bind_some h
   subst hx
   have h:=hq9
   refine RS.mS 2 [(31,.val (Value.pointer (some (Addr.add q9 4)))),kP 30 q9] ?_
   obtain ⟨x10,hx,h⟩:=bind_some h
   refine RS.ld 32 34 (.tmp 31) (z1 hx z15) (RS.mS 1 [kT 33 x7] ?_)
   obtain ⟨⟨x11,b12⟩,hx,h⟩:=bind_some h
   try dsimp only at h
   refine RS.o (H':=H8) (some 34) (Value.tuple #[(Value.int .i64 x11),(Value.bool b12)]) (Abs.run_look (t:=34) (x:=.tmp 32) (y:=.tmp 33) (mm:=x10) (k:=(Value.string x7)) (by kernel_rfl) (by kernel_rfl) (by kernel_rfl) (by kernel_rfl) (lkM_eq hx z8)) (RS.mS 5 [kB 11 b12,kI 10 x11,kB 36 b12,kI 35 x11,(28,.val (Value.tuple #[(Value.int .i64 x11),(Value.bool b12)]))] (RS.dn (WS.nxt (WS.sq (WS.rg (RS.mS 1 [kB 37 b12] (RS.dn (WS.nxt ?_))))))))
   rcases z0 h with ⟨hp,h⟩ | ⟨hp,h⟩
   ·refine WS.fx 37 true hp (WS.cT (WS.sq (WS.rg (RS.mS 3 [kI 5 0,kI 4 x11,kI 38 x11] (RS.dn (WS.nxt (WS.rt ?_)))))))
    cases h
    exact fun a w hs=>sqR (rtR (rS hs))
   ·refine WS.fx 37 false (b_not hp) (WS.cF (WS.sk (WS.nxt (WS.sq (WS.sq (WS.rg (RS.mS 3 [(41,.val (Value.pointer (some (Addr.add q9 3)))),kP 40 q9,kP 39 q9] ?_)))))))
    obtain ⟨x13,hx,h⟩:=bind_some h
    refine RS.ld 42 33 (.tmp 41) (z1 hx z3) (RS.mS 2 [kB 44 (decide ((x13.n:Int)≥1048576)),kI 43 (x13.n:Int)] (RS.dn (WS.nxt ?_)))
    rcases z0 h with ⟨hp,h⟩ | ⟨hp,h⟩
    ·refine WS.fx 44 true (decide_eq_true hp) (WS.cT ?_)
     cases h
    ·refine WS.fx 44 false (decide_eq_false hp) (WS.cF (WS.sk (WS.nxt (WS.sq ?_))))
     refine WS.dr [0,1,2,3,5,6,7,8] [0,1,3,7,0,0,32,96,224,480,1023] 11 (fun hcl=>?_)
     refine DA.tK 0 (some 45) (Value.pointer (some q9)) (DA.tK 1 (some 46) (Value.pointer (some q9)) (DA.tK 2 (some 47) (Value.pointer (some (Addr.add q9 4))) ?_))
     obtain ⟨x14,hx,h⟩:=bind_some h
     refine DA.tD 3 (some 48) (Value.map x14) (Abs.det_load (t:=34) (x:=.tmp 47) (a:=(Addr.add q9 4)) (by kernel_rfl) (by kernel_rfl) (by kernel_rfl) (by kernel_rfl) (z1 hx z15)) (DA.tK 5 (some 50) (Value.pointer (some q9)) (DA.tK 6 (some 51) (Value.pointer (some q9)) (DA.tK 7 (some 52) (Value.pointer (some (Addr.add q9 3))) ?_)))
     obtain ⟨x15,hx,h⟩:=bind_some h
     refine DA.tD 8 (some 53) (Sl3.v x15) (Abs.det_load (t:=33) (x:=.tmp 52) (a:=(Addr.add q9 3)) (by kernel_rfl) (by kernel_rfl) (by kernel_rfl) (by kernel_rfl) (z1 hx z3)) (DA.tP 4 (some 49) (Value.string x7) (DA.on 9 (DA.aHj (H':=H8) 9 (some 54) false (Value.int .i64 (x15.n:Int)) (by kernel_rfl) ?_)))
     obtain ⟨H16,hx,h⟩:=bind_some h
     refine DA.on 10 (DA.aH (H':=H16) 10 none undef (Abs.run_upM (t:=34) (x:=.tmp 48) (y:=.tmp 49) (z:=.tmp 54) (mm:=x14) (k:=(Value.string x7)) (v:=(Value.int .i64 (x15.n:Int))) (by kernel_rfl) (by kernel_rfl) (by kernel_rfl) (by kernel_rfl) (by kernel_rfl) hx) (DA.dn (WS.nxt (WS.sq ?_))))
     obtain ⟨x17,hx_4,h⟩:=bind_some h
     obtain ⟨⟨x18_0,x18_1,x18_2,x18_3,H19⟩,hx_7,h⟩:=bind_some h
     try dsimp only at h
     obtain ⟨⟨k20,H21⟩,hx_k20,h⟩:=bind_some h
     try dsimp only at h
     obtain ⟨⟨s22,H23⟩,hx_10,h⟩:=bind_some h
     try dsimp only at h
     obtain ⟨H24,hx_13,h⟩:=bind_some h
     refine WS.toone ([kP 0 q9]) ([some (73,[(Value.int .i64 a1_0),(Value.string a1_1),(Value.bool a1_2),(Sl3.v a1_3),(Value.int .i64 a1_4),(Sl3.v a1_5),(Value.int .i64 a1_6),(Value.int .i64 a1_7),(Value.string a1_8),(Sl3.v a1_9),(Sl3.v a1_10),(Sl3.v a1_11)]),some (59,[(Value.int .i64 x2_0),(Value.int .i64 x2_1),(Value.string x2_2),(Sl3.v x2_3)]),some (73,[(Value.int .i64 x5_0),(Value.string x5_1),(Value.bool x5_2),(Sl3.v x5_3),(Value.int .i64 x5_4),(Sl3.v x5_5),(Value.int .i64 x5_6),(Value.int .i64 x5_7),(Value.string x5_8),(Sl3.v x5_9),(Sl3.v x5_10),(Sl3.v x5_11)]),none]) H24 ?_ ?_
     ·clear h
      refine WS.dr [1,2,3,4,6] [0,0,2,6,14,0,0,64,224,480,1022,2047,4095,8191] 14 (fun hcl=>?_)
      refine DA.tK 1 (some 56) (Value.pointer (some q9)) (DA.tK 2 (some 57) (Value.pointer (some q9)) (DA.tK 3 (some 58) (Value.pointer (some (Addr.add q9 3))) (DA.tD 4 (some 59) (Sl3.v x17) (Abs.det_load (t:=33) (x:=.tmp 58) (a:=(Addr.add q9 3)) (by kernel_rfl) (by kernel_rfl) (by kernel_rfl) (by kernel_rfl) (z1 hx_4 z3)) (DA.tL 6 (some 61) (.val (Value.agg #[(Value.int .i64 x2_0),(Value.int .i64 x2_1),(Value.string x2_2),(Sl3.v x2_3)])) (DA.tP 0 (some 55) (Value.pointer (some q9)) ?_)))))
      refine DA.two 5 7 (by kernel_rfl) ?_ ?_
      ·refine DA.aL 5 (some 60) (.val (Value.agg #[(Value.int .i64 x5_0),(Value.string x5_1),(Value.bool x5_2),(Sl3.v x5_3),(Value.int .i64 x5_4),(Sl3.v x5_5),(Value.int .i64 x5_6),(Value.int .i64 x5_7),(Value.string x5_8),(Sl3.v x5_9),(Sl3.v x5_10),(Sl3.v x5_11)])) ([some (73,[(Value.int .i64 a1_0),(Value.string a1_1),(Value.bool a1_2),(Sl3.v a1_3),(Value.int .i64 a1_4),(Sl3.v a1_5),(Value.int .i64 a1_6),(Value.int .i64 a1_7),(Value.string a1_8),(Sl3.v a1_9),(Sl3.v a1_10),(Sl3.v a1_11)]),some (59,[(Value.int .i64 x2_0),(Value.int .i64 x2_1),(Value.string x2_2),(Sl3.v x2_3)]),some (73,[(Value.int .i64 x5_0),(Value.string x5_1),(Value.bool x5_2),(Sl3.v x5_3),(Value.int .i64 x5_4),(Sl3.v x5_5),(Value.int .i64 x5_6),(Value.int .i64 x5_7),(Value.string x5_8),(Sl3.v x5_9),(Sl3.v x5_10),(Sl3.v x5_11)])]) true (DA.on 7 (DA.aCj 7 (some 62) true (v:=(Value.agg #[(Value.int .i64 x18_0),(Value.int .i64 x18_1),(Value.string x18_2),(Sl3.v x18_3)])) 28 #[(Value.agg #[(Value.int .i64 x2_0),(Value.int .i64 x2_1),(Value.string x2_2),(Sl3.v x2_3)])] (zr hx_7) (DA.on 8 (DA.aHj (H':=H19) 8 (some 63) true (Value.agg #[(Value.int .i64 x5_0),(Value.string x5_1),(Value.bool x5_2),(Sl3.v x5_3),(Value.int .i64 x5_4),(Sl3.v x5_5),(Value.int .i64 x5_6),(Value.int .i64 x5_7),(Value.string x5_8),(Sl3.v x5_9),(Sl3.v x5_10),(Sl3.v x5_11),(Value.int .i64 x18_0),(Value.int .i64 x18_1),(Value.string x18_2),(Sl3.v x18_3)]) (by kernel_rfl) (DA.on 9 (DA.actS 9 (some 64) (.sli 3 1) ([some (73,[(Value.int .i64 a1_0),(Value.string a1_1),(Value.bool a1_2),(Sl3.v a1_3),(Value.int .i64 a1_4),(Sl3.v a1_5),(Value.int .i64 a1_6),(Value.int .i64 a1_7),(Value.string a1_8),(Sl3.v a1_9),(Sl3.v a1_10),(Sl3.v a1_11)]),some (59,[(Value.int .i64 x2_0),(Value.int .i64 x2_1),(Value.string x2_2),(Sl3.v x2_3)]),some (73,[(Value.int .i64 x5_0),(Value.string x5_1),(Value.bool x5_2),(Sl3.v x5_3),(Value.int .i64 x5_4),(Sl3.v x5_5),(Value.int .i64 x5_6),(Value.int .i64 x5_7),(Value.string x5_8),(Sl3.v x5_9),(Sl3.v x5_10),(Sl3.v x5_11)]),some (100,[(Value.int .i64 x5_0),(Value.string x5_1),(Value.bool x5_2),(Sl3.v x5_3),(Value.int .i64 x5_4),(Sl3.v x5_5),(Value.int .i64 x5_6),(Value.int .i64 x5_7),(Value.string x5_8),(Sl3.v x5_9),(Sl3.v x5_10),(Sl3.v x5_11),(Value.int .i64 x18_0),(Value.int .i64 x18_1),(Value.string x18_2),(Sl3.v x18_3)])]) (by kernel_rfl) (by kernel_rfl) (by kernel_rfl) hcl (by kernel_rfl) (by kernel_rfl) (by kernel_rfl) (DA.on 10 (DA.pubK 3 _ _ hx_k20 (by kernel_rfl) rfl rfl (DA.aH (H':=H23) 10 (some 65) (Sl3.v s22) (Abs.run_app (x:=.tmp 59) (y:=.tmp 64) (ts:=#[33,33]) (s:=x17) (z:=(⟨some ⟨k20,0,none⟩,1,1⟩:Sl3)) (by kernel_rfl) (by kernel_rfl) (by kernel_rfl) (by kernel_rfl) hx_10) ?_)))))))))
       refine DA.tP 11 (some 66) (Value.pointer (some q9)) (DA.tP 12 (some 67) (Value.pointer (some (Addr.add q9 3))) (DA.on 13 (DA.aH (H':=H24) 13 none undef (Abs.run_store1 (t:=33) (x:=.tmp 67) (y:=.tmp 65) (a:=(Addr.add q9 3)) (v:=(Sl3.v s22)) (by kernel_rfl) (by kernel_rfl) (by kernel_rfl) (by kernel_rfl) (by kernel_rfl) hx_13) (DA.dn ?_))))
       exact fun a w hs=>jsN (hs.sb 4)
      ·refine DA.aCj 7 (some 62) true (v:=(Value.agg #[(Value.int .i64 x18_0),(Value.int .i64 x18_1),(Value.string x18_2),(Sl3.v x18_3)])) 28 #[(Value.agg #[(Value.int .i64 x2_0),(Value.int .i64 x2_1),(Value.string x2_2),(Sl3.v x2_3)])] (zr hx_7) (DA.on 5 (DA.aL 5 (some 60) (.val (Value.agg #[(Value.int .i64 x5_0),(Value.string x5_1),(Value.bool x5_2),(Sl3.v x5_3),(Value.int .i64 x5_4),(Sl3.v x5_5),(Value.int .i64 x5_6),(Value.int .i64 x5_7),(Value.string x5_8),(Sl3.v x5_9),(Sl3.v x5_10),(Sl3.v x5_11)])) ([some (73,[(Value.int .i64 a1_0),(Value.string a1_1),(Value.bool a1_2),(Sl3.v a1_3),(Value.int .i64 a1_4),(Sl3.v a1_5),(Value.int .i64 a1_6),(Value.int .i64 a1_7),(Value.string a1_8),(Sl3.v a1_9),(Sl3.v a1_10),(Sl3.v a1_11)]),some (59,[(Value.int .i64 x2_0),(Value.int .i64 x2_1),(Value.string x2_2),(Sl3.v x2_3)]),some (73,[(Value.int .i64 x5_0),(Value.string x5_1),(Value.bool x5_2),(Sl3.v x5_3),(Value.int .i64 x5_4),(Sl3.v x5_5),(Value.int .i64 x5_6),(Value.int .i64 x5_7),(Value.string x5_8),(Sl3.v x5_9),(Sl3.v x5_10),(Sl3.v x5_11)])]) true (DA.on 8 (DA.aHj (H':=H19) 8 (some 63) true (Value.agg #[(Value.int .i64 x5_0),(Value.string x5_1),(Value.bool x5_2),(Sl3.v x5_3),(Value.int .i64 x5_4),(Sl3.v x5_5),(Value.int .i64 x5_6),(Value.int .i64 x5_7),(Value.string x5_8),(Sl3.v x5_9),(Sl3.v x5_10),(Sl3.v x5_11),(Value.int .i64 x18_0),(Value.int .i64 x18_1),(Value.string x18_2),(Sl3.v x18_3)]) (by kernel_rfl) (DA.on 9 (DA.actS 9 (some 64) (.sli 3 1) ([some (73,[(Value.int .i64 a1_0),(Value.string a1_1),(Value.bool a1_2),(Sl3.v a1_3),(Value.int .i64 a1_4),(Sl3.v a1_5),(Value.int .i64 a1_6),(Value.int .i64 a1_7),(Value.string a1_8),(Sl3.v a1_9),(Sl3.v a1_10),(Sl3.v a1_11)]),some (59,[(Value.int .i64 x2_0),(Value.int .i64 x2_1),(Value.string x2_2),(Sl3.v x2_3)]),some (73,[(Value.int .i64 x5_0),(Value.string x5_1),(Value.bool x5_2),(Sl3.v x5_3),(Value.int .i64 x5_4),(Sl3.v x5_5),(Value.int .i64 x5_6),(Value.int .i64 x5_7),(Value.string x5_8),(Sl3.v x5_9),(Sl3.v x5_10),(Sl3.v x5_11)]),some (100,[(Value.int .i64 x5_0),(Value.string x5_1),(Value.bool x5_2),(Sl3.v x5_3),(Value.int .i64 x5_4),(Sl3.v x5_5),(Value.int .i64 x5_6),(Value.int .i64 x5_7),(Value.string x5_8),(Sl3.v x5_9),(Sl3.v x5_10),(Sl3.v x5_11),(Value.int .i64 x18_0),(Value.int .i64 x18_1),(Value.string x18_2),(Sl3.v x18_3)])]) (by kernel_rfl) (by kernel_rfl) (by kernel_rfl) hcl (by kernel_rfl) (by kernel_rfl) (by kernel_rfl) (DA.on 10 (DA.pubK 3 _ _ hx_k20 (by kernel_rfl) rfl rfl (DA.aH (H':=H23) 10 (some 65) (Sl3.v s22) (Abs.run_app (x:=.tmp 59) (y:=.tmp 64) (ts:=#[33,33]) (s:=x17) (z:=(⟨some ⟨k20,0,none⟩,1,1⟩:Sl3)) (by kernel_rfl) (by kernel_rfl) (by kernel_rfl) (by kernel_rfl) hx_10) ?_)))))))))
       refine DA.tP 11 (some 66) (Value.pointer (some q9)) (DA.tP 12 (some 67) (Value.pointer (some (Addr.add q9 3))) (DA.on 13 (DA.aH (H':=H24) 13 none undef (Abs.run_store1 (t:=33) (x:=.tmp 67) (y:=.tmp 65) (a:=(Addr.add q9 3)) (v:=(Sl3.v s22)) (by kernel_rfl) (by kernel_rfl) (by kernel_rfl) (by kernel_rfl) (by kernel_rfl) hx_13) (DA.dn ?_))))
       exact fun a w hs=>jsN (hs.sb 4)
     ·refine WS.nxt (WS.sq (WS.rg (RS.mS 3 [(70,.val (Value.pointer (some (Addr.add q9 3)))),kP 69 q9,kP 68 q9] ?_)))
      obtain ⟨x25,hx,h⟩:=bind_some h
      refine RS.ld 71 33 (.tmp 70) (z1 hx z3) (RS.mS 4 [kI 5 0,kI 4 (IntKind.i64.wrap ((x25.n:Int) - 1)),kI 73 (IntKind.i64.wrap ((x25.n:Int) - 1)),kI 72 (x25.n:Int)] (RS.dn (WS.nxt (WS.rt ?_))))
      cases h
      exact fun a w hs=>rtR (rS hs)
  ·refine WS.fx 22 true (z1k hp) (WS.cT (WS.sq (WS.rg (RS.mS 3 [kI 5 x3,kI 4 0,kI 23 x3] (RS.dn (WS.nxt (WS.rt ?_)))))))
   cases h
   exact fun a w hs=>sqR (rtR (rS hs))
 ·refine WS.fx 14 true (zk hp) (WS.cT (WS.sq (WS.rg (RS.mS 2 [kI 5 4,kI 4 0] (RS.dn (WS.nxt (WS.rt ?_)))))))
  cases h
  exact fun a w hs=>sqR (rtR (rS hs))
def ze1:(Bool×AH)→Value
 | (r0,_)=>(Value.bool r0)
def zfp (_:AH):(Bool×AH)→AH:=fun r=>r.2
noncomputable def B7:Code:=(Tryz.f7.body).getD .skip
noncomputable def zb3 (L:LC) (m:Nat) (H:AH) (a0:Option Addr):Option (Bool×AH) :=
 Option.bind (z3i L m H a0 0 (⟨#[]⟩:ByteArray) false Sl3.nil 0 Sl3.nil 0 0 (⟨#[]⟩:ByteArray) Sl3.nil Sl3.nil Sl3.nil) fun (_,x2,H3) =>
 some ((!decide (x2=4)),H3)
theorem zfn {L:LC} {m:Nat} {H:AH} {a0:Option Addr} {r:(Bool×AH)} (h:zb3 L m H a0=some r) :
  CallS Tryz.prog (NE.plain 114) m 7 #[(Value.pointer a0)] H (ze1 r) (zfp H r):=by
 refine CallS.mk (args:=[(Value.pointer a0)]) Tryz.func7 (B:=B7) (by kernel_rfl) (fun E _=>?_)
 unfold zb3 at h
 refine WS.sq (WS.rg (RS.mS 1 [kB 2 false] (RS.dn (WS.nxt (WS.sq (WS.rg (RS.mS 2 [kA 7 #[(Value.int .i64 0),(Value.string (⟨#[]⟩:ByteArray)),(Value.bool false),(Sl3.v Sl3.nil),(Value.int .i64 0),(Sl3.v Sl3.nil),(Value.int .i64 0),(Value.int .i64 0),(Value.string (⟨#[]⟩:ByteArray)),(Sl3.v Sl3.nil),(Sl3.v Sl3.nil),(Sl3.v Sl3.nil)],(6,.val (Value.pointer a0))] ?_)))))))
 obtain ⟨⟨x1,x2,H3⟩,hx,h⟩:=bind_some h
 try dsimp only at h
 refine RS.cl (some 8) (v:=(Value.tuple #[(Value.int .i64 x1),(Value.int .i64 x2)])) 23 #[(Value.pointer a0),(Value.agg #[(Value.int .i64 0),(Value.string (⟨#[]⟩:ByteArray)),(Value.bool false),(Sl3.v Sl3.nil),(Value.int .i64 0),(Sl3.v Sl3.nil),(Value.int .i64 0),(Value.int .i64 0),(Value.string (⟨#[]⟩:ByteArray)),(Sl3.v Sl3.nil),(Sl3.v Sl3.nil),(Sl3.v Sl3.nil)])] (z66 hx) (RS.mS 5 [kI 4 x2,kI 3 x1,kI 10 x2,kI 9 x1,(5,.val (Value.tuple #[(Value.int .i64 x1),(Value.int .i64 x2)]))] (RS.dn (WS.nxt (WS.sq (WS.rg (RS.mS 3 [kB 2 (!decide (x2=4)),kB 12 (!decide (x2=4)),kI 11 x2] (RS.dn (WS.nxt (WS.rt ?_)))))))))
 cases h
 exact fun a w hs=>rtR (rS hs)
def z9l:Int→Value
 | r0=>(Value.int .i64 r0)
def zau (H:AH):Int→AH:=fun _=>H
noncomputable def B10:Code:=(Tryz.f10.body).getD .skip
noncomputable def z99 (L:LC) (H:AH) (a0:Option Addr):Option Int :=
 Option.bind (z12 L H a0) fun x1 =>
 if x1=true then
  Option.bind a0 fun q2 =>
  Option.bind (rd deSl H (Addr.add q2 3)) fun x3 =>
  some (x3.n:Int)
 else
  none
theorem zhe {L:LC} {m:Nat} {H:AH} {a0:Option Addr} {r:Int} (h:z99 L H a0=some r) :
  CallS Tryz.prog (NE.plain 114) m 10 #[(Value.pointer a0)] H (z9l r) (zau H r):=by
 refine CallS.mk (args:=[(Value.pointer a0)]) Tryz.func10 (B:=B10) (by kernel_rfl) (fun E _=>?_)
 unfold z99 at h
 refine WS.sq (WS.rg (RS.mS 1 [kI 2 0] (RS.dn (WS.nxt (WS.sq (WS.sq (WS.rg (RS.mS 1 [(3,.val (Value.pointer a0))] ?_))))))))
 obtain ⟨x1,hx,h⟩:=bind_some h
 refine RS.cl (some 4) (v:=(Value.bool x1)) 25 #[(Value.pointer a0)] (z18 hx) (RS.mS 1 [kB 5 (!x1)] (RS.dn (WS.nxt ?_)))
 rcases z0 h with ⟨hp,h⟩ | ⟨hp,h⟩
 ·refine WS.fx 5 false (nb_not hp) (WS.cF (WS.sk (WS.nxt (WS.sq (WS.rg (RS.mS 1 [(6,.val (Value.pointer a0))] ?_))))))
  obtain ⟨q2,hx,hq2⟩:=bind_some h
  subst hx
  have h:=hq2
  refine RS.mS 2 [(8,.val (Value.pointer (some (Addr.add q2 3)))),kP 7 q2] ?_
  obtain ⟨x3,hx,h⟩:=bind_some h
  refine RS.ld 9 33 (.tmp 8) (z1 hx z3) (RS.mS 2 [kI 2 (x3.n:Int),kI 10 (x3.n:Int)] (RS.dn (WS.nxt (WS.rt ?_))))
  cases h
  exact fun a w hs=>rtR (rS hs)
 ·refine WS.fx 5 true (zk hp) (WS.cT ?_)
  cases h
def zfz:(Sl3×AH)→Value
 | (r0,_)=>(Sl3.v r0)
def zgd (_:AH):(Sl3×AH)→AH:=fun r=>r.2
noncomputable def B44:Code:=(Tryz.f44.body).getD .skip
noncomputable def z2t (_L:LC) (m:Nat) (H:AH) (a0:Sl3):Option (Sl3×AH) :=
 if (isNilS a0)=true then
  some (Sl3.nil,H)
 else
  Option.bind (newR 9 0 #[] H) fun (s1,H2) =>
  Option.bind (appS m 9 1 16 H2 s1 a0) fun (s3,H4) =>
  some (s3,H4)
theorem z55 {L:LC} {m:Nat} {H:AH} {a0:Sl3} {r:(Sl3×AH)} (h:z2t L m H a0=some r) :
  CallS Tryz.prog (NE.plain 114) m 44 #[(Sl3.v a0)] H (zfz r) (zgd H r):=by
 refine CallS.mk (args:=[(Sl3.v a0)]) Tryz.func44 (B:=B44) (by kernel_rfl) (fun E _=>?_)
 unfold z2t at h
 refine WS.sq (WS.rg (RS.mS 1 [kS 2 Sl3.nil] (RS.dn (WS.nxt (WS.sq (WS.sq (WS.rg (RS.mS 1 [kS 3 a0] (RS.o (H':=H) (some 4) (Value.bool (isNilS a0)) (z9d (t:=28) (e:=9) (u:=28) (x:=.tmp 3) (y:=.const (Sl3.v Sl3.nil)) (s:=a0) (by kernel_rfl) (by kernel_rfl) (by kernel_rfl) (by kernel_rfl)) ?_)))))))))
 refine RS.dn (WS.nxt ?_)
 rcases z0 h with ⟨hp,h⟩ | ⟨hp,h⟩
 ·refine WS.fx 4 true hp (WS.cT (WS.sq (WS.rg (RS.mS 1 [kS 2 Sl3.nil] (RS.dn (WS.nxt (WS.rt ?_)))))))
  cases h
  exact fun a w hs=>sqR (rtR (rS hs))
 ·refine WS.fx 4 false (b_not hp) (WS.cF (WS.sk (WS.nxt (WS.sq (WS.rg ?_)))))
  obtain ⟨⟨s1,H2⟩,hx,h⟩:=bind_some h
  try dsimp only at h
  refine RS.o (H':=H2) (some 5) (Sl3.v s1) (Abs.run_newR (by kernel_rfl) (by kernel_rfl) hx) (RS.mS 1 [kS 6 a0] ?_)
  obtain ⟨⟨s3,H4⟩,hx,h⟩:=bind_some h
  try dsimp only at h
  refine RS.o (H':=H4) (some 7) (Sl3.v s3) (Abs.run_app (x:=.tmp 5) (y:=.tmp 6) (ts:=#[28,28]) (s:=s1) (z:=a0) (by kernel_rfl) (by kernel_rfl) (by kernel_rfl) (by kernel_rfl) hx) (RS.mS 1 [kS 2 s3] (RS.dn (WS.nxt (WS.rt ?_))))
  cases h
  exact fun a w hs=>rtR (rS hs)
end Go.Proofs.YthhbfmgipdbilaaGreatDoor
namespace Go.Proofs.YthhbfmgipdbilaaGreatDoor
open Go Go.Abs
set_option maxRecDepth 100000
def z1j:(Sl3×Sl3×Sl3×AH)→Value
 | (r0,r1,r2,_)=>(Value.agg #[(Sl3.v r0),(Sl3.v r1),(Sl3.v r2)])
def z1t (_:AH):(Sl3×Sl3×Sl3×AH)→AH:=fun r=>r.2.2.2
noncomputable def B26:Code:=(Tryz.f26.body).getD .skip
noncomputable def z7u (_L:LC) (_a0_0 _a0_1 _a0_2:Sl3) (_v24_4:Int) (_w2_5 _w2_6 _w2_7:Sl3) (_x9_0:ByteArray) (_x9_1:Sl3) (_v34_11:Int) (_w4_12:ByteArray) (_w4_13:Sl3) (_x15_0:ByteArray) (x15_1:Sl3):(AH×Int×ByteArray×Sl3)→Option (Lp (AH×Int×ByteArray×Sl3) (Sl3×Sl3×Sl3×AH)):=fun (H16,v44_17,w6_18,w6_19) =>
 if v44_17<(x15_1.n:Int) then
  none
 else
  some (.brk (H16,v44_17,w6_18,w6_19))
def zg7 (_L:LC) (a0_0 a0_1 a0_2:Sl3) (v24_4:Int) (w2_5 w2_6 w2_7:Sl3) (x9_0:ByteArray) (x9_1:Sl3) (v34_11:Int) (w4_12:ByteArray) (w4_13:Sl3) (x15_0:ByteArray) (x15_1:Sl3):(AH×Int×ByteArray×Sl3)→KN×Lcs:=fun (_,v44_17,w6_18,w6_19)=>([kI 44 v44_17,kL 1 0 0,kL 2 1 0,kL 3 2 0,kL 6 4 0,kL 9 6 0,kS 22 a0_1,kI 23 (a0_1.n:Int),kI 24 v24_4,kS 32 x9_1,kI 33 (x9_1.n:Int),kI 34 v34_11,kS 42 x15_1,kI 43 (x15_1.n:Int)],[some (32,[(Sl3.v a0_0),(Sl3.v a0_1),(Sl3.v a0_2)]),some (32,[(Sl3.v Sl3.nil),(Sl3.v Sl3.nil),(Sl3.v Sl3.nil)]),some (32,[(Sl3.v w2_5),(Sl3.v w2_6),(Sl3.v w2_7)]),some (91,[(Value.string x9_0),(Sl3.v x9_1)]),some (91,[(Value.string w4_12),(Sl3.v w4_13)]),some (88,[(Value.string x15_0),(Sl3.v x15_1)]),some (88,[(Value.string w6_18),(Sl3.v w6_19)])])
noncomputable def z7e (L:LC) (m:Nat) (a0_0 a0_1 a0_2:Sl3) (v24_4:Int) (w2_5 w2_6 w2_7:Sl3) (x9_0:ByteArray) (x9_1:Sl3):(AH×Int×ByteArray×Sl3)→Option (Lp (AH×Int×ByteArray×Sl3) (Sl3×Sl3×Sl3×AH)):=fun (H10,v34_11,w4_12,w4_13) =>
 if v34_11<(x9_1.n:Int) then
  Option.bind (idxA 2 x9_1 v34_11) fun p14 =>
  Option.bind (rd deS H10 (Addr.add p14 0)) fun x15_0 =>
  Option.bind (rd deSl H10 (Addr.add p14 1)) fun x15_1 =>
  Option.bind (L.run (z7u L a0_0 a0_1 a0_2 v24_4 w2_5 w2_6 w2_7 x9_0 x9_1 v34_11 w4_12 w4_13 x15_0 x15_1) (H10,0,x15_0,Sl3.nil)) fun o=>match o with
  | .inl (H20,_,w6_22,w6_23) =>
   Option.bind (newR 88 1 #[(Value.string w6_22),(Sl3.v w6_23)] H20) fun (s24,H25) =>
   Option.bind (appS m 88 2 40 H25 w4_13 s24) fun (s26,H27) =>
   some (.next (H27,(IntKind.i64.wrap (v34_11+1)),w4_12,s26))
  | .inr r=>some (.ret r)
 else
  some (.brk (H10,v34_11,w4_12,w4_13))
def zh9 (_L:LC) (_m:Nat) (a0_0 a0_1 a0_2:Sl3) (v24_4:Int) (w2_5 w2_6 w2_7:Sl3) (x9_0:ByteArray) (x9_1:Sl3):(AH×Int×ByteArray×Sl3)→KN×Lcs:=fun (_,v34_11,w4_12,w4_13)=>([kI 34 v34_11,kL 1 0 0,kL 2 1 0,kL 3 2 0,kL 6 4 0,kS 22 a0_1,kI 23 (a0_1.n:Int),kI 24 v24_4,kS 32 x9_1,kI 33 (x9_1.n:Int)],[some (32,[(Sl3.v a0_0),(Sl3.v a0_1),(Sl3.v a0_2)]),some (32,[(Sl3.v Sl3.nil),(Sl3.v Sl3.nil),(Sl3.v Sl3.nil)]),some (32,[(Sl3.v w2_5),(Sl3.v w2_6),(Sl3.v w2_7)]),some (91,[(Value.string x9_0),(Sl3.v x9_1)]),some (91,[(Value.string w4_12),(Sl3.v w4_13)])])
noncomputable def z7v (L:LC) (m:Nat) (a0_0 a0_1 a0_2:Sl3):(AH×Int×Sl3×Sl3×Sl3)→Option (Lp (AH×Int×Sl3×Sl3×Sl3) (Sl3×Sl3×Sl3×AH)):=fun (H3,v24_4,w2_5,w2_6,w2_7) =>
 if v24_4<(a0_1.n:Int) then
  Option.bind (idxA 2 a0_1 v24_4) fun p8 =>
  Option.bind (rd deS H3 (Addr.add p8 0)) fun x9_0 =>
  Option.bind (rd deSl H3 (Addr.add p8 1)) fun x9_1 =>
  Option.bind (L.run (z7e L m a0_0 a0_1 a0_2 v24_4 w2_5 w2_6 w2_7 x9_0 x9_1) (H3,0,x9_0,Sl3.nil)) fun o=>match o with
  | .inl (H28,_,w4_30,w4_31) =>
   Option.bind (newR 91 1 #[(Value.string w4_30),(Sl3.v w4_31)] H28) fun (s32,H33) =>
   Option.bind (appS m 91 2 40 H33 w2_6 s32) fun (s34,H35) =>
   some (.next (H35,(IntKind.i64.wrap (v24_4+1)),w2_5,s34,w2_7))
  | .inr r=>some (.ret r)
 else
  some (.brk (H3,v24_4,w2_5,w2_6,w2_7))
def zh6 (_L:LC) (_m:Nat) (a0_0 a0_1 a0_2:Sl3):(AH×Int×Sl3×Sl3×Sl3)→KN×Lcs:=fun (_,v24_4,w2_5,w2_6,w2_7)=>([kI 24 v24_4,kL 1 0 0,kL 2 1 0,kL 3 2 0,kS 22 a0_1,kI 23 (a0_1.n:Int)],[some (32,[(Sl3.v a0_0),(Sl3.v a0_1),(Sl3.v a0_2)]),some (32,[(Sl3.v Sl3.nil),(Sl3.v Sl3.nil),(Sl3.v Sl3.nil)]),some (32,[(Sl3.v w2_5),(Sl3.v w2_6),(Sl3.v w2_7)])])
noncomputable def z8a (_L:LC) (_a0_0 _a0_1 _a0_2:Sl3) (_v77_42:Int) (_w2_43 _w2_44 _w2_45:Sl3) (_x47_0:ByteArray) (x47_1:Sl3) (_x47_2 _x47_3:Int) (_x47_4:ByteArray) (_x47_5:Sl3):(AH×Int×ByteArray×Sl3×Int×Int×ByteArray×Sl3)→Option (Lp (AH×Int×ByteArray×Sl3×Int×Int×ByteArray×Sl3) (Sl3×Sl3×Sl3×AH)):=fun (H50,v90_51,w4_52,w4_53,w4_54,w4_55,w4_56,w4_57) =>
 if v90_51<(x47_1.n:Int) then
  none
 else
  some (.brk (H50,v90_51,w4_52,w4_53,w4_54,w4_55,w4_56,w4_57))
def zgs (_L:LC) (a0_0 a0_1 a0_2:Sl3) (v77_42:Int) (w2_43 w2_44 w2_45:Sl3) (x47_0:ByteArray) (x47_1:Sl3) (x47_2 x47_3:Int) (x47_4:ByteArray) (x47_5:Sl3):(AH×Int×ByteArray×Sl3×Int×Int×ByteArray×Sl3)→KN×Lcs:=fun (_,v90_51,w4_52,w4_53,w4_54,w4_55,w4_56,w4_57)=>([kI 90 v90_51,kL 2 1 0,kL 3 2 0,kL 14 4 0,kS 75 a0_2,kI 76 (a0_2.n:Int),kI 77 v77_42,kS 88 x47_1,kI 89 (x47_1.n:Int)],[some (32,[(Sl3.v a0_0),(Sl3.v a0_1),(Sl3.v a0_2)]),some (32,[(Sl3.v Sl3.nil),(Sl3.v Sl3.nil),(Sl3.v Sl3.nil)]),some (32,[(Sl3.v w2_43),(Sl3.v w2_44),(Sl3.v w2_45)]),some (93,[(Value.string x47_0),(Sl3.v x47_1),(Value.int .i64 x47_2),(Value.int .i64 x47_3),(Value.string x47_4),(Sl3.v x47_5)]),some (93,[(Value.string w4_52),(Sl3.v w4_53),(Value.int .i64 w4_54),(Value.int .i64 w4_55),(Value.string w4_56),(Sl3.v w4_57)])])
noncomputable def z7o (L:LC) (m:Nat) (a0_0 a0_1 a0_2:Sl3):(AH×Int×Sl3×Sl3×Sl3)→Option (Lp (AH×Int×Sl3×Sl3×Sl3) (Sl3×Sl3×Sl3×AH)):=fun (H41,v77_42,w2_43,w2_44,w2_45) =>
 if v77_42<(a0_2.n:Int) then
  Option.bind (idxA 6 a0_2 v77_42) fun p46 =>
  Option.bind (rd deS H41 (Addr.add p46 0)) fun x47_0 =>
  Option.bind (rd deSl H41 (Addr.add p46 1)) fun x47_1 =>
  Option.bind (rd (deI .i64) H41 (Addr.add p46 2)) fun x47_2 =>
  Option.bind (rd (deI .i64) H41 (Addr.add p46 3)) fun x47_3 =>
  Option.bind (rd deS H41 (Addr.add p46 4)) fun x47_4 =>
  Option.bind (rd deSl H41 (Addr.add p46 5)) fun x47_5 =>
  Option.bind (z6q L (Nat.max m H41.next) H41 x47_2 x47_3 x47_4 x47_5) fun (x48_0,x48_1,x48_2,x48_3,H49) =>
  Option.bind (L.run (z8a L a0_0 a0_1 a0_2 v77_42 w2_43 w2_44 w2_45 x47_0 x47_1 x47_2 x47_3 x47_4 x47_5) (H49,0,x47_0,Sl3.nil,x48_0,x48_1,x48_2,x48_3)) fun o=>match o with
  | .inl (H58,_,w4_60,w4_61,w4_62,w4_63,w4_64,w4_65) =>
   Option.bind (newR 93 1 #[(Value.string w4_60),(Sl3.v w4_61),(Value.int .i64 w4_62),(Value.int .i64 w4_63),(Value.string w4_64),(Sl3.v w4_65)] H58) fun (s66,H67) =>
   Option.bind (appS m 93 6 96 H67 w2_45 s66) fun (s68,H69) =>
   some (.next (H69,(IntKind.i64.wrap (v77_42+1)),w2_43,w2_44,s68))
  | .inr r=>some (.ret r)
 else
  some (.brk (H41,v77_42,w2_43,w2_44,w2_45))
def zh7 (_L:LC) (_m:Nat) (a0_0 a0_1 a0_2:Sl3):(AH×Int×Sl3×Sl3×Sl3)→KN×Lcs:=fun (_,v77_42,w2_43,w2_44,w2_45)=>([kI 77 v77_42,kL 2 1 0,kL 3 2 0,kS 75 a0_2,kI 76 (a0_2.n:Int)],[some (32,[(Sl3.v a0_0),(Sl3.v a0_1),(Sl3.v a0_2)]),some (32,[(Sl3.v Sl3.nil),(Sl3.v Sl3.nil),(Sl3.v Sl3.nil)]),some (32,[(Sl3.v w2_43),(Sl3.v w2_44),(Sl3.v w2_45)])])
noncomputable def z7p (L:LC) (m:Nat) (H:AH) (a0_0 a0_1 a0_2:Sl3):Option (Sl3×Sl3×Sl3×AH) :=
 Option.bind (z2t L m H a0_0) fun (x1,H2) =>
 Option.bind (L.run (z7v L m a0_0 a0_1 a0_2) (H2,0,x1,Sl3.nil,Sl3.nil)) fun o=>match o with
 | .inl (H36,_,w2_38,w2_39,w2_40) =>
  Option.bind (L.run (z7o L m a0_0 a0_1 a0_2) (H36,0,w2_38,w2_39,w2_40)) fun o=>match o with
  | .inl (H70,_,w2_72,w2_73,w2_74) =>
   some (w2_72,w2_73,w2_74,H70)
  | .inr r=>some r
 | .inr r=>some r
theorem za0 {E m H L a0_0 a0_1 a0_2 v24_4 w2_5 w2_6 w2_7 x9_0 x9_1 v34_11 w4_12 w4_13 x15_0 x15_1} :LoopF Tryz.prog (NE.plain 114) m E Tryz.f26 ((cfst (csnd (cfst (csnd (csnd (cfst (cfst (csnd (csnd (cfst (cfst (csnd (cfst (csnd (csnd (cfst (cfst (csnd (csnd (cfst (cfst (csnd (cfst (csnd (csnd B26)))))))))))))))))))))))))) (zg7 L a0_0 a0_1 a0_2 v24_4 w2_5 w2_6 w2_7 x9_0 x9_1 v34_11 w4_12 w4_13 x15_0 x15_1) (fun s=>s.1) 4 z1j (z1t H) (z7u L a0_0 a0_1 a0_2 v24_4 w2_5 w2_6 w2_7 x9_0 x9_1 v34_11 w4_12 w4_13 x15_0 x15_1):=by
 rintro ⟨H16,v44_17,w6_18,w6_19⟩ o h
 unfold z7u at h
 try dsimp only at h
 refine WS.sq (WS.rg (RS.mS 1 [kB 45 (decide (v44_17<(x15_1.n:Int)))] (RS.dn (WS.nxt (WS.sq ?_)))))
 rcases z0 h with ⟨hp,h⟩ | ⟨hp,h⟩
 ·refine WS.fx 45 true (decide_eq_true hp) (WS.cT ?_)
  cases h
 ·refine WS.fx 45 false (decide_eq_false hp) (WS.cF (WS.ex 4 ?_))
  cases h
  exact fun a w hs=>sqE (lsB rfl (hs.sb 7))
theorem z9h {E H L m a0_0 a0_1 a0_2 v24_4 w2_5 w2_6 w2_7 x9_0 x9_1} :LoopF Tryz.prog (NE.plain 114) m E Tryz.f26 ((cfst (csnd (cfst (csnd (csnd (cfst (cfst (csnd (csnd (cfst (cfst (csnd (cfst (csnd (csnd B26)))))))))))))))) (zh9 L m a0_0 a0_1 a0_2 v24_4 w2_5 w2_6 w2_7 x9_0 x9_1) (fun s=>s.1) 2 z1j (z1t H) (z7e L m a0_0 a0_1 a0_2 v24_4 w2_5 w2_6 w2_7 x9_0 x9_1):=by
 rintro ⟨H10,v34_11,w4_12,w4_13⟩ o h
 unfold z7e at h
 try dsimp only at h
 refine WS.sq (WS.rg (RS.mS 1 [kB 35 (decide (v34_11<(x9_1.n:Int)))] (RS.dn (WS.nxt (WS.sq ?_)))))
 rcases z0 h with ⟨hp,h⟩ | ⟨hp,h⟩
 ·refine WS.fx 35 true (decide_eq_true hp) (WS.cT (WS.sk (WS.nxt (WS.sq (WS.bk 3 (WS.sq (WS.rg ?_)))))))
  obtain ⟨p14,hx,h⟩:=bind_some h
  refine RS.ix 36 89 88 (.tmp 32) (.tmp 34) hx ?_
  obtain ⟨x15_0,hx0,h⟩:=bind_some h
  obtain ⟨x15_1,hx1,h⟩:=bind_some h
  refine RS.la 37 88 (.tmp 36) 2 (z2 (z1 hx0 z9) (z2 (z1 hx1 z3) za)) (RS.mL 2 [kL 8 5 0] ([some (32,[(Sl3.v a0_0),(Sl3.v a0_1),(Sl3.v a0_2)]),some (32,[(Sl3.v Sl3.nil),(Sl3.v Sl3.nil),(Sl3.v Sl3.nil)]),some (32,[(Sl3.v w2_5),(Sl3.v w2_6),(Sl3.v w2_7)]),some (91,[(Value.string x9_0),(Sl3.v x9_1)]),some (91,[(Value.string w4_12),(Sl3.v w4_13)]),some (88,[(Value.string x15_0),(Sl3.v x15_1)])]) (RS.dn (WS.nxt (WS.sq (WS.rg (RS.mL 5 [kL 9 6 0,kA 40 #[(Value.string x15_0),(Sl3.v Sl3.nil)],kT 39 x15_0,kL 38 5 0] ([some (32,[(Sl3.v a0_0),(Sl3.v a0_1),(Sl3.v a0_2)]),some (32,[(Sl3.v Sl3.nil),(Sl3.v Sl3.nil),(Sl3.v Sl3.nil)]),some (32,[(Sl3.v w2_5),(Sl3.v w2_6),(Sl3.v w2_7)]),some (91,[(Value.string x9_0),(Sl3.v x9_1)]),some (91,[(Value.string w4_12),(Sl3.v w4_13)]),some (88,[(Value.string x15_0),(Sl3.v x15_1)]),some (88,[(Value.string x15_0),(Sl3.v Sl3.nil)])]) (RS.dn (WS.nxt (WS.sq ?_)))))))))
  refine WS.sq (WS.rg (RS.mS 4 [kI 44 0,kI 43 (x15_1.n:Int),kS 42 x15_1,kL 41 5 1] (RS.dn (WS.nxt (WS.bk 4 ?_)))))
  obtain ⟨o,hl,h⟩:=bind_some h
  rcases o with ⟨H20,v44_21,w6_22,w6_23⟩ | r
  ·try dsimp only at h
   refine WS.lI (za0 (L:=L) (E:=E) (m:=m) (H:=H)) (L.ok hl) 7 ?_
   clear hl
   refine fun a w hs=>bkE ((WS.nxt ?_ a w hs))
   refine WS.rg (RS.mS 3 [kA 62 #[(Value.string w6_22),(Sl3.v w6_23)],kS 61 w4_13,kL 60 4 1] ?_)
   obtain ⟨⟨s24,H25⟩,hx,h⟩:=bind_some h
   try dsimp only at h
   refine RS.o (H':=H25) (some 63) (Sl3.v s24) (Abs.run_newR (by kernel_rfl) (by kernel_rfl) hx) ?_
   obtain ⟨⟨s26,H27⟩,hx,h⟩:=bind_some h
   try dsimp only at h
   refine RS.o (H':=H27) (some 64) (Sl3.v s26) (Abs.run_app (x:=.tmp 61) (y:=.tmp 63) (ts:=#[89,89]) (s:=w4_13) (z:=s24) (by kernel_rfl) (by kernel_rfl) (by kernel_rfl) (by kernel_rfl) hx) (RS.mL 2 [kL 65 4 1] ([some (32,[(Sl3.v a0_0),(Sl3.v a0_1),(Sl3.v a0_2)]),some (32,[(Sl3.v Sl3.nil),(Sl3.v Sl3.nil),(Sl3.v Sl3.nil)]),some (32,[(Sl3.v w2_5),(Sl3.v w2_6),(Sl3.v w2_7)]),some (91,[(Value.string x9_0),(Sl3.v x9_1)]),some (91,[(Value.string w4_12),(Sl3.v s26)]),some (88,[(Value.string x15_0),(Sl3.v x15_1)]),some (88,[(Value.string w6_22),(Sl3.v w6_23)])]) (RS.dn ?_))
   refine fun a w hs=>bkN ((WS.nxt ?_ a w hs))
   refine WS.rg (RS.mS 2 [kI 34 (IntKind.i64.wrap (v34_11+1)),kI 66 (IntKind.i64.wrap (v34_11+1))] (RS.dn ?_))
   cases h
   exact fun a w hs=>lsN rfl (hs.sb 5)
  ·try dsimp only at h
   refine WS.lR (za0 (L:=L) (E:=E) (m:=m) (H:=H)) (L.ok hl) 7 ?_
   cases h
   exact fun a w hq=>bkR (sqR (bkR (sqR (lsR rfl hq))))
 ·refine WS.fx 35 false (decide_eq_false hp) (WS.cF (WS.ex 2 ?_))
  cases h
  exact fun a w hs=>sqE (lsB rfl (hs.sb 5))
theorem z9o {E H L m a0_0 a0_1 a0_2} :LoopF Tryz.prog (NE.plain 114) m E Tryz.f26 ((cfst (csnd (cfst (csnd (csnd B26)))))) (zh6 L m a0_0 a0_1 a0_2) (fun s=>s.1) 0 z1j (z1t H) (z7v L m a0_0 a0_1 a0_2):=by
 rintro ⟨H3,v24_4,w2_5,w2_6,w2_7⟩ o h
 unfold z7v at h
 try dsimp only at h
 refine WS.sq (WS.rg (RS.mS 1 [kB 25 (decide (v24_4<(a0_1.n:Int)))] (RS.dn (WS.nxt (WS.sq ?_)))))
 rcases z0 h with ⟨hp,h⟩ | ⟨hp,h⟩
 ·refine WS.fx 25 true (decide_eq_true hp) (WS.cT (WS.sk (WS.nxt (WS.sq (WS.bk 1 (WS.sq (WS.rg ?_)))))))
  obtain ⟨p8,hx,h⟩:=bind_some h
  refine RS.ix 26 29 91 (.tmp 22) (.tmp 24) hx ?_
  obtain ⟨x9_0,hx0,h⟩:=bind_some h
  obtain ⟨x9_1,hx1,h⟩:=bind_some h
  refine RS.la 27 91 (.tmp 26) 2 (z2 (z1 hx0 z9) (z2 (z1 hx1 z3) za)) (RS.mL 2 [kL 5 3 0] ([some (32,[(Sl3.v a0_0),(Sl3.v a0_1),(Sl3.v a0_2)]),some (32,[(Sl3.v Sl3.nil),(Sl3.v Sl3.nil),(Sl3.v Sl3.nil)]),some (32,[(Sl3.v w2_5),(Sl3.v w2_6),(Sl3.v w2_7)]),some (91,[(Value.string x9_0),(Sl3.v x9_1)])]) (RS.dn (WS.nxt (WS.sq (WS.rg (RS.mL 5 [kL 6 4 0,kA 30 #[(Value.string x9_0),(Sl3.v Sl3.nil)],kT 29 x9_0,kL 28 3 0] ([some (32,[(Sl3.v a0_0),(Sl3.v a0_1),(Sl3.v a0_2)]),some (32,[(Sl3.v Sl3.nil),(Sl3.v Sl3.nil),(Sl3.v Sl3.nil)]),some (32,[(Sl3.v w2_5),(Sl3.v w2_6),(Sl3.v w2_7)]),some (91,[(Value.string x9_0),(Sl3.v x9_1)]),some (91,[(Value.string x9_0),(Sl3.v Sl3.nil)])]) (RS.dn (WS.nxt (WS.sq ?_)))))))))
  refine WS.sq (WS.rg (RS.mS 4 [kI 34 0,kI 33 (x9_1.n:Int),kS 32 x9_1,kL 31 3 1] (RS.dn (WS.nxt (WS.bk 2 ?_)))))
  obtain ⟨o,hl,h⟩:=bind_some h
  rcases o with ⟨H28,v34_29,w4_30,w4_31⟩ | r
  ·try dsimp only at h
   refine WS.lI (z9h (L:=L) (E:=E) (m:=m) (H:=H)) (L.ok hl) 5 ?_
   clear hl
   refine fun a w hs=>bkE ((WS.nxt ?_ a w hs))
   refine WS.rg (RS.mS 3 [kA 69 #[(Value.string w4_30),(Sl3.v w4_31)],kS 68 w2_6,kL 67 2 1] ?_)
   obtain ⟨⟨s32,H33⟩,hx,h⟩:=bind_some h
   try dsimp only at h
   refine RS.o (H':=H33) (some 70) (Sl3.v s32) (Abs.run_newR (by kernel_rfl) (by kernel_rfl) hx) ?_
   obtain ⟨⟨s34,H35⟩,hx,h⟩:=bind_some h
   try dsimp only at h
   refine RS.o (H':=H35) (some 71) (Sl3.v s34) (Abs.run_app (x:=.tmp 68) (y:=.tmp 70) (ts:=#[29,29]) (s:=w2_6) (z:=s32) (by kernel_rfl) (by kernel_rfl) (by kernel_rfl) (by kernel_rfl) hx) (RS.mL 2 [kL 72 2 1] ([some (32,[(Sl3.v a0_0),(Sl3.v a0_1),(Sl3.v a0_2)]),some (32,[(Sl3.v Sl3.nil),(Sl3.v Sl3.nil),(Sl3.v Sl3.nil)]),some (32,[(Sl3.v w2_5),(Sl3.v s34),(Sl3.v w2_7)]),some (91,[(Value.string x9_0),(Sl3.v x9_1)]),some (91,[(Value.string w4_30),(Sl3.v w4_31)])]) (RS.dn ?_))
   refine fun a w hs=>bkN ((WS.nxt ?_ a w hs))
   refine WS.rg (RS.mS 2 [kI 24 (IntKind.i64.wrap (v24_4+1)),kI 73 (IntKind.i64.wrap (v24_4+1))] (RS.dn ?_))
   cases h
   exact fun a w hs=>lsN rfl (hs.sb 3)
  ·try dsimp only at h
   refine WS.lR (z9h (L:=L) (E:=E) (m:=m) (H:=H)) (L.ok hl) 5 ?_
   cases h
   exact fun a w hq=>bkR (sqR (bkR (sqR (lsR rfl hq))))
 ·refine WS.fx 25 false (decide_eq_false hp) (WS.cF (WS.ex 0 ?_))
  cases h
  exact fun a w hs=>sqE (lsB rfl (hs.sb 3))
theorem za2 {E m H L a0_0 a0_1 a0_2 v77_42 w2_43 w2_44 w2_45 x47_0 x47_1 x47_2 x47_3 x47_4 x47_5} :LoopF Tryz.prog (NE.plain 114) m E Tryz.f26 ((cfst (csnd (cfst (csnd (csnd (cfst (cfst (csnd (csnd (cfst (cfst (csnd (cfst (csnd (csnd (csnd B26))))))))))))))))) (zgs L a0_0 a0_1 a0_2 v77_42 w2_43 w2_44 w2_45 x47_0 x47_1 x47_2 x47_3 x47_4 x47_5) (fun s=>s.1) 8 z1j (z1t H) (z8a L a0_0 a0_1 a0_2 v77_42 w2_43 w2_44 w2_45 x47_0 x47_1 x47_2 x47_3 x47_4 x47_5):=by
 rintro ⟨H50,v90_51,w4_52,w4_53,w4_54,w4_55,w4_56,w4_57⟩ o h
 unfold z8a at h
 try dsimp only at h
 refine WS.sq (WS.rg (RS.mS 1 [kB 91 (decide (v90_51<(x47_1.n:Int)))] (RS.dn (WS.nxt (WS.sq ?_)))))
 rcases z0 h with ⟨hp,h⟩ | ⟨hp,h⟩
 ·refine WS.fx 91 true (decide_eq_true hp) (WS.cT ?_)
  cases h
 ·refine WS.fx 91 false (decide_eq_false hp) (WS.cF (WS.ex 8 ?_))
  cases h
  exact fun a w hs=>sqE (lsB rfl (hs.sb 5))
theorem z9w {E H L m a0_0 a0_1 a0_2} :LoopF Tryz.prog (NE.plain 114) m E Tryz.f26 ((cfst (csnd (cfst (csnd (csnd (csnd B26))))))) (zh7 L m a0_0 a0_1 a0_2) (fun s=>s.1) 6 z1j (z1t H) (z7o L m a0_0 a0_1 a0_2):=by
 rintro ⟨H41,v77_42,w2_43,w2_44,w2_45⟩ o h
 unfold z7o at h
 try dsimp only at h
 refine WS.sq (WS.rg (RS.mS 1 [kB 78 (decide (v77_42<(a0_2.n:Int)))] (RS.dn (WS.nxt (WS.sq ?_)))))
 rcases z0 h with ⟨hp,h⟩ | ⟨hp,h⟩
 ·refine WS.fx 78 true (decide_eq_true hp) (WS.cT (WS.sk (WS.nxt (WS.sq (WS.bk 7 (WS.sq (WS.rg ?_)))))))
  obtain ⟨p46,hx,h⟩:=bind_some h
  refine RS.ix 79 30 93 (.tmp 75) (.tmp 77) hx ?_
  obtain ⟨x47_0,hx0,h⟩:=bind_some h
  obtain ⟨x47_1,hx1,h⟩:=bind_some h
  obtain ⟨x47_2,hx2,h⟩:=bind_some h
  obtain ⟨x47_3,hx3,h⟩:=bind_some h
  obtain ⟨x47_4,hx4,h⟩:=bind_some h
  obtain ⟨x47_5,hx5,h⟩:=bind_some h
  refine RS.la 80 93 (.tmp 79) 6 (z2 (z1 hx0 z9) (z2 (z1 hx1 z3) (z2 (z1 hx2 z8) (z2 (z1 hx3 z8) (z2 (z1 hx4 z9) (z2 (z1 hx5 z3) za)))))) (RS.mL 2 [kL 13 3 0] ([some (32,[(Sl3.v a0_0),(Sl3.v a0_1),(Sl3.v a0_2)]),some (32,[(Sl3.v Sl3.nil),(Sl3.v Sl3.nil),(Sl3.v Sl3.nil)]),some (32,[(Sl3.v w2_43),(Sl3.v w2_44),(Sl3.v w2_45)]),some (93,[(Value.string x47_0),(Sl3.v x47_1),(Value.int .i64 x47_2),(Value.int .i64 x47_3),(Value.string x47_4),(Sl3.v x47_5)])]) (RS.dn (WS.nxt (WS.sq ?_))))
  obtain ⟨⟨x48_0,x48_1,x48_2,x48_3,H49⟩,hx_4,h⟩:=bind_some h
  try dsimp only at h
  refine WS.toone ([kL 2 1 0,kL 3 2 0,kL 13 3 0,kL 14 4 0,kS 75 a0_2,kI 76 (a0_2.n:Int),kI 77 v77_42]) ([some (32,[(Sl3.v a0_0),(Sl3.v a0_1),(Sl3.v a0_2)]),some (32,[(Sl3.v Sl3.nil),(Sl3.v Sl3.nil),(Sl3.v Sl3.nil)]),some (32,[(Sl3.v w2_43),(Sl3.v w2_44),(Sl3.v w2_45)]),some (93,[(Value.string x47_0),(Sl3.v x47_1),(Value.int .i64 x47_2),(Value.int .i64 x47_3),(Value.string x47_4),(Sl3.v x47_5)]),some (93,[(Value.string x47_0),(Sl3.v Sl3.nil),(Value.int .i64 x48_0),(Value.int .i64 x48_1),(Value.string x48_2),(Sl3.v x48_3)])]) H49 ?_ ?_
  ·clear h
   refine WS.dr [2,3] [0,1,0,4,12,31,0,127] 8 (fun hcl=>?_)
   refine DA.tL 2 (some 83) (.loc 3 2) (DA.tL 3 (some 84) (.val (Value.agg #[(Value.int .i64 x47_2),(Value.int .i64 x47_3),(Value.string x47_4),(Sl3.v x47_5)])) (DA.restart [0,2,3] (by kernel_rfl) (DA.tL 0 (some 81) (.loc 3 0) ?_)))
   refine DA.three 1 4 6 (by kernel_rfl) ?_ ?_ ?_
   ·refine DA.aL 1 (some 82) (.val (Value.string x47_0)) ([some (32,[(Sl3.v a0_0),(Sl3.v a0_1),(Sl3.v a0_2)]),some (32,[(Sl3.v Sl3.nil),(Sl3.v Sl3.nil),(Sl3.v Sl3.nil)]),some (32,[(Sl3.v w2_43),(Sl3.v w2_44),(Sl3.v w2_45)]),some (93,[(Value.string x47_0),(Sl3.v x47_1),(Value.int .i64 x47_2),(Value.int .i64 x47_3),(Value.string x47_4),(Sl3.v x47_5)])]) true ?_
    refine DA.two 4 6 (by kernel_rfl) ?_ ?_
    ·refine DA.aCj 4 (some 85) true (v:=(Value.agg #[(Value.int .i64 x48_0),(Value.int .i64 x48_1),(Value.string x48_2),(Sl3.v x48_3)])) 28 #[(Value.agg #[(Value.int .i64 x47_2),(Value.int .i64 x47_3),(Value.string x47_4),(Sl3.v x47_5)])] (zr hx_4) ?_
     refine DA.two 5 6 (by kernel_rfl) ?_ ?_
     ·refine DA.aHj (H':=H49) 5 (some 86) true (Value.agg #[(Value.string x47_0),(Sl3.v Sl3.nil),(Value.int .i64 x48_0),(Value.int .i64 x48_1),(Value.string x48_2),(Sl3.v x48_3)]) (by kernel_rfl) (DA.on 6 (DA.aL 6 (some 14) (.loc 4 0) ([some (32,[(Sl3.v a0_0),(Sl3.v a0_1),(Sl3.v a0_2)]),some (32,[(Sl3.v Sl3.nil),(Sl3.v Sl3.nil),(Sl3.v Sl3.nil)]),some (32,[(Sl3.v w2_43),(Sl3.v w2_44),(Sl3.v w2_45)]),some (93,[(Value.string x47_0),(Sl3.v x47_1),(Value.int .i64 x47_2),(Value.int .i64 x47_3),(Value.string x47_4),(Sl3.v x47_5)]),some (93,[(Value.string (⟨#[]⟩:ByteArray)),(Sl3.v Sl3.nil),(Value.int .i64 0),(Value.int .i64 0),(Value.string (⟨#[]⟩:ByteArray)),(Sl3.v Sl3.nil)])]) false (DA.on 7 (DA.aL 7 none (.val undef) ([some (32,[(Sl3.v a0_0),(Sl3.v a0_1),(Sl3.v a0_2)]),some (32,[(Sl3.v Sl3.nil),(Sl3.v Sl3.nil),(Sl3.v Sl3.nil)]),some (32,[(Sl3.v w2_43),(Sl3.v w2_44),(Sl3.v w2_45)]),some (93,[(Value.string x47_0),(Sl3.v x47_1),(Value.int .i64 x47_2),(Value.int .i64 x47_3),(Value.string x47_4),(Sl3.v x47_5)]),some (93,[(Value.string x47_0),(Sl3.v Sl3.nil),(Value.int .i64 x48_0),(Value.int .i64 x48_1),(Value.string x48_2),(Sl3.v x48_3)])]) false (DA.dn ?_)))))
      exact fun a w hs=>jsN (hs.sb 5)
     ·refine DA.aL 6 (some 14) (.loc 4 0) ([some (32,[(Sl3.v a0_0),(Sl3.v a0_1),(Sl3.v a0_2)]),some (32,[(Sl3.v Sl3.nil),(Sl3.v Sl3.nil),(Sl3.v Sl3.nil)]),some (32,[(Sl3.v w2_43),(Sl3.v w2_44),(Sl3.v w2_45)]),some (93,[(Value.string x47_0),(Sl3.v x47_1),(Value.int .i64 x47_2),(Value.int .i64 x47_3),(Value.string x47_4),(Sl3.v x47_5)]),some (93,[(Value.string (⟨#[]⟩:ByteArray)),(Sl3.v Sl3.nil),(Value.int .i64 0),(Value.int .i64 0),(Value.string (⟨#[]⟩:ByteArray)),(Sl3.v Sl3.nil)])]) false (DA.on 5 (DA.aH (H':=H49) 5 (some 86) (Value.agg #[(Value.string x47_0),(Sl3.v Sl3.nil),(Value.int .i64 x48_0),(Value.int .i64 x48_1),(Value.string x48_2),(Sl3.v x48_3)]) (by kernel_rfl) (DA.on 7 (DA.aL 7 none (.val undef) ([some (32,[(Sl3.v a0_0),(Sl3.v a0_1),(Sl3.v a0_2)]),some (32,[(Sl3.v Sl3.nil),(Sl3.v Sl3.nil),(Sl3.v Sl3.nil)]),some (32,[(Sl3.v w2_43),(Sl3.v w2_44),(Sl3.v w2_45)]),some (93,[(Value.string x47_0),(Sl3.v x47_1),(Value.int .i64 x47_2),(Value.int .i64 x47_3),(Value.string x47_4),(Sl3.v x47_5)]),some (93,[(Value.string x47_0),(Sl3.v Sl3.nil),(Value.int .i64 x48_0),(Value.int .i64 x48_1),(Value.string x48_2),(Sl3.v x48_3)])]) false (DA.dn ?_)))))
      exact fun a w hs=>jsN (hs.sb 5)
    ·refine DA.aL 6 (some 14) (.loc 4 0) ([some (32,[(Sl3.v a0_0),(Sl3.v a0_1),(Sl3.v a0_2)]),some (32,[(Sl3.v Sl3.nil),(Sl3.v Sl3.nil),(Sl3.v Sl3.nil)]),some (32,[(Sl3.v w2_43),(Sl3.v w2_44),(Sl3.v w2_45)]),some (93,[(Value.string x47_0),(Sl3.v x47_1),(Value.int .i64 x47_2),(Value.int .i64 x47_3),(Value.string x47_4),(Sl3.v x47_5)]),some (93,[(Value.string (⟨#[]⟩:ByteArray)),(Sl3.v Sl3.nil),(Value.int .i64 0),(Value.int .i64 0),(Value.string (⟨#[]⟩:ByteArray)),(Sl3.v Sl3.nil)])]) true (DA.on 4 (DA.aCj 4 (some 85) false (v:=(Value.agg #[(Value.int .i64 x48_0),(Value.int .i64 x48_1),(Value.string x48_2),(Sl3.v x48_3)])) 28 #[(Value.agg #[(Value.int .i64 x47_2),(Value.int .i64 x47_3),(Value.string x47_4),(Sl3.v x47_5)])] (zr hx_4) (DA.on 5 (DA.aH (H':=H49) 5 (some 86) (Value.agg #[(Value.string x47_0),(Sl3.v Sl3.nil),(Value.int .i64 x48_0),(Value.int .i64 x48_1),(Value.string x48_2),(Sl3.v x48_3)]) (by kernel_rfl) (DA.on 7 (DA.aL 7 none (.val undef) ([some (32,[(Sl3.v a0_0),(Sl3.v a0_1),(Sl3.v a0_2)]),some (32,[(Sl3.v Sl3.nil),(Sl3.v Sl3.nil),(Sl3.v Sl3.nil)]),some (32,[(Sl3.v w2_43),(Sl3.v w2_44),(Sl3.v w2_45)]),some (93,[(Value.string x47_0),(Sl3.v x47_1),(Value.int .i64 x47_2),(Value.int .i64 x47_3),(Value.string x47_4),(Sl3.v x47_5)]),some (93,[(Value.string x47_0),(Sl3.v Sl3.nil),(Value.int .i64 x48_0),(Value.int .i64 x48_1),(Value.string x48_2),(Sl3.v x48_3)])]) false (DA.dn ?_)))))))
     exact fun a w hs=>jsN (hs.sb 5)
   ·refine DA.aCj 4 (some 85) true (v:=(Value.agg #[(Value.int .i64 x48_0),(Value.int .i64 x48_1),(Value.string x48_2),(Sl3.v x48_3)])) 28 #[(Value.agg #[(Value.int .i64 x47_2),(Value.int .i64 x47_3),(Value.string x47_4),(Sl3.v x47_5)])] (zr hx_4) ?_
    refine DA.two 1 6 (by kernel_rfl) ?_ ?_
    ·refine DA.aL 1 (some 82) (.val (Value.string x47_0)) ([some (32,[(Sl3.v a0_0),(Sl3.v a0_1),(Sl3.v a0_2)]),some (32,[(Sl3.v Sl3.nil),(Sl3.v Sl3.nil),(Sl3.v Sl3.nil)]),some (32,[(Sl3.v w2_43),(Sl3.v w2_44),(Sl3.v w2_45)]),some (93,[(Value.string x47_0),(Sl3.v x47_1),(Value.int .i64 x47_2),(Value.int .i64 x47_3),(Value.string x47_4),(Sl3.v x47_5)])]) true ?_
     refine DA.two 5 6 (by kernel_rfl) ?_ ?_
     ·refine DA.aHj (H':=H49) 5 (some 86) true (Value.agg #[(Value.string x47_0),(Sl3.v Sl3.nil),(Value.int .i64 x48_0),(Value.int .i64 x48_1),(Value.string x48_2),(Sl3.v x48_3)]) (by kernel_rfl) (DA.on 6 (DA.aL 6 (some 14) (.loc 4 0) ([some (32,[(Sl3.v a0_0),(Sl3.v a0_1),(Sl3.v a0_2)]),some (32,[(Sl3.v Sl3.nil),(Sl3.v Sl3.nil),(Sl3.v Sl3.nil)]),some (32,[(Sl3.v w2_43),(Sl3.v w2_44),(Sl3.v w2_45)]),some (93,[(Value.string x47_0),(Sl3.v x47_1),(Value.int .i64 x47_2),(Value.int .i64 x47_3),(Value.string x47_4),(Sl3.v x47_5)]),some (93,[(Value.string (⟨#[]⟩:ByteArray)),(Sl3.v Sl3.nil),(Value.int .i64 0),(Value.int .i64 0),(Value.string (⟨#[]⟩:ByteArray)),(Sl3.v Sl3.nil)])]) false (DA.on 7 (DA.aL 7 none (.val undef) ([some (32,[(Sl3.v a0_0),(Sl3.v a0_1),(Sl3.v a0_2)]),some (32,[(Sl3.v Sl3.nil),(Sl3.v Sl3.nil),(Sl3.v Sl3.nil)]),some (32,[(Sl3.v w2_43),(Sl3.v w2_44),(Sl3.v w2_45)]),some (93,[(Value.string x47_0),(Sl3.v x47_1),(Value.int .i64 x47_2),(Value.int .i64 x47_3),(Value.string x47_4),(Sl3.v x47_5)]),some (93,[(Value.string x47_0),(Sl3.v Sl3.nil),(Value.int .i64 x48_0),(Value.int .i64 x48_1),(Value.string x48_2),(Sl3.v x48_3)])]) false (DA.dn ?_)))))
      exact fun a w hs=>jsN (hs.sb 5)
     ·refine DA.aL 6 (some 14) (.loc 4 0) ([some (32,[(Sl3.v a0_0),(Sl3.v a0_1),(Sl3.v a0_2)]),some (32,[(Sl3.v Sl3.nil),(Sl3.v Sl3.nil),(Sl3.v Sl3.nil)]),some (32,[(Sl3.v w2_43),(Sl3.v w2_44),(Sl3.v w2_45)]),some (93,[(Value.string x47_0),(Sl3.v x47_1),(Value.int .i64 x47_2),(Value.int .i64 x47_3),(Value.string x47_4),(Sl3.v x47_5)]),some (93,[(Value.string (⟨#[]⟩:ByteArray)),(Sl3.v Sl3.nil),(Value.int .i64 0),(Value.int .i64 0),(Value.string (⟨#[]⟩:ByteArray)),(Sl3.v Sl3.nil)])]) false (DA.on 5 (DA.aH (H':=H49) 5 (some 86) (Value.agg #[(Value.string x47_0),(Sl3.v Sl3.nil),(Value.int .i64 x48_0),(Value.int .i64 x48_1),(Value.string x48_2),(Sl3.v x48_3)]) (by kernel_rfl) (DA.on 7 (DA.aL 7 none (.val undef) ([some (32,[(Sl3.v a0_0),(Sl3.v a0_1),(Sl3.v a0_2)]),some (32,[(Sl3.v Sl3.nil),(Sl3.v Sl3.nil),(Sl3.v Sl3.nil)]),some (32,[(Sl3.v w2_43),(Sl3.v w2_44),(Sl3.v w2_45)]),some (93,[(Value.string x47_0),(Sl3.v x47_1),(Value.int .i64 x47_2),(Value.int .i64 x47_3),(Value.string x47_4),(Sl3.v x47_5)]),some (93,[(Value.string x47_0),(Sl3.v Sl3.nil),(Value.int .i64 x48_0),(Value.int .i64 x48_1),(Value.string x48_2),(Sl3.v x48_3)])]) false (DA.dn ?_)))))
      exact fun a w hs=>jsN (hs.sb 5)
    ·refine DA.aL 6 (some 14) (.loc 4 0) ([some (32,[(Sl3.v a0_0),(Sl3.v a0_1),(Sl3.v a0_2)]),some (32,[(Sl3.v Sl3.nil),(Sl3.v Sl3.nil),(Sl3.v Sl3.nil)]),some (32,[(Sl3.v w2_43),(Sl3.v w2_44),(Sl3.v w2_45)]),some (93,[(Value.string x47_0),(Sl3.v x47_1),(Value.int .i64 x47_2),(Value.int .i64 x47_3),(Value.string x47_4),(Sl3.v x47_5)]),some (93,[(Value.string (⟨#[]⟩:ByteArray)),(Sl3.v Sl3.nil),(Value.int .i64 0),(Value.int .i64 0),(Value.string (⟨#[]⟩:ByteArray)),(Sl3.v Sl3.nil)])]) true (DA.on 1 (DA.aL 1 (some 82) (.val (Value.string x47_0)) ([some (32,[(Sl3.v a0_0),(Sl3.v a0_1),(Sl3.v a0_2)]),some (32,[(Sl3.v Sl3.nil),(Sl3.v Sl3.nil),(Sl3.v Sl3.nil)]),some (32,[(Sl3.v w2_43),(Sl3.v w2_44),(Sl3.v w2_45)]),some (93,[(Value.string x47_0),(Sl3.v x47_1),(Value.int .i64 x47_2),(Value.int .i64 x47_3),(Value.string x47_4),(Sl3.v x47_5)]),some (93,[(Value.string (⟨#[]⟩:ByteArray)),(Sl3.v Sl3.nil),(Value.int .i64 0),(Value.int .i64 0),(Value.string (⟨#[]⟩:ByteArray)),(Sl3.v Sl3.nil)])]) false (DA.on 5 (DA.aH (H':=H49) 5 (some 86) (Value.agg #[(Value.string x47_0),(Sl3.v Sl3.nil),(Value.int .i64 x48_0),(Value.int .i64 x48_1),(Value.string x48_2),(Sl3.v x48_3)]) (by kernel_rfl) (DA.on 7 (DA.aL 7 none (.val undef) ([some (32,[(Sl3.v a0_0),(Sl3.v a0_1),(Sl3.v a0_2)]),some (32,[(Sl3.v Sl3.nil),(Sl3.v Sl3.nil),(Sl3.v Sl3.nil)]),some (32,[(Sl3.v w2_43),(Sl3.v w2_44),(Sl3.v w2_45)]),some (93,[(Value.string x47_0),(Sl3.v x47_1),(Value.int .i64 x47_2),(Value.int .i64 x47_3),(Value.string x47_4),(Sl3.v x47_5)]),some (93,[(Value.string x47_0),(Sl3.v Sl3.nil),(Value.int .i64 x48_0),(Value.int .i64 x48_1),(Value.string x48_2),(Sl3.v x48_3)])]) false (DA.dn ?_)))))))
     exact fun a w hs=>jsN (hs.sb 5)
   ·refine DA.aL 6 (some 14) (.loc 4 0) ([some (32,[(Sl3.v a0_0),(Sl3.v a0_1),(Sl3.v a0_2)]),some (32,[(Sl3.v Sl3.nil),(Sl3.v Sl3.nil),(Sl3.v Sl3.nil)]),some (32,[(Sl3.v w2_43),(Sl3.v w2_44),(Sl3.v w2_45)]),some (93,[(Value.string x47_0),(Sl3.v x47_1),(Value.int .i64 x47_2),(Value.int .i64 x47_3),(Value.string x47_4),(Sl3.v x47_5)]),some (93,[(Value.string (⟨#[]⟩:ByteArray)),(Sl3.v Sl3.nil),(Value.int .i64 0),(Value.int .i64 0),(Value.string (⟨#[]⟩:ByteArray)),(Sl3.v Sl3.nil)])]) true ?_
    refine DA.two 1 4 (by kernel_rfl) ?_ ?_
    ·refine DA.aL 1 (some 82) (.val (Value.string x47_0)) ([some (32,[(Sl3.v a0_0),(Sl3.v a0_1),(Sl3.v a0_2)]),some (32,[(Sl3.v Sl3.nil),(Sl3.v Sl3.nil),(Sl3.v Sl3.nil)]),some (32,[(Sl3.v w2_43),(Sl3.v w2_44),(Sl3.v w2_45)]),some (93,[(Value.string x47_0),(Sl3.v x47_1),(Value.int .i64 x47_2),(Value.int .i64 x47_3),(Value.string x47_4),(Sl3.v x47_5)]),some (93,[(Value.string (⟨#[]⟩:ByteArray)),(Sl3.v Sl3.nil),(Value.int .i64 0),(Value.int .i64 0),(Value.string (⟨#[]⟩:ByteArray)),(Sl3.v Sl3.nil)])]) true (DA.on 4 (DA.aCj 4 (some 85) false (v:=(Value.agg #[(Value.int .i64 x48_0),(Value.int .i64 x48_1),(Value.string x48_2),(Sl3.v x48_3)])) 28 #[(Value.agg #[(Value.int .i64 x47_2),(Value.int .i64 x47_3),(Value.string x47_4),(Sl3.v x47_5)])] (zr hx_4) (DA.on 5 (DA.aH (H':=H49) 5 (some 86) (Value.agg #[(Value.string x47_0),(Sl3.v Sl3.nil),(Value.int .i64 x48_0),(Value.int .i64 x48_1),(Value.string x48_2),(Sl3.v x48_3)]) (by kernel_rfl) (DA.on 7 (DA.aL 7 none (.val undef) ([some (32,[(Sl3.v a0_0),(Sl3.v a0_1),(Sl3.v a0_2)]),some (32,[(Sl3.v Sl3.nil),(Sl3.v Sl3.nil),(Sl3.v Sl3.nil)]),some (32,[(Sl3.v w2_43),(Sl3.v w2_44),(Sl3.v w2_45)]),some (93,[(Value.string x47_0),(Sl3.v x47_1),(Value.int .i64 x47_2),(Value.int .i64 x47_3),(Value.string x47_4),(Sl3.v x47_5)]),some (93,[(Value.string x47_0),(Sl3.v Sl3.nil),(Value.int .i64 x48_0),(Value.int .i64 x48_1),(Value.string x48_2),(Sl3.v x48_3)])]) false (DA.dn ?_)))))))
     exact fun a w hs=>jsN (hs.sb 5)
    ·refine DA.aCj 4 (some 85) true (v:=(Value.agg #[(Value.int .i64 x48_0),(Value.int .i64 x48_1),(Value.string x48_2),(Sl3.v x48_3)])) 28 #[(Value.agg #[(Value.int .i64 x47_2),(Value.int .i64 x47_3),(Value.string x47_4),(Sl3.v x47_5)])] (zr hx_4) (DA.on 1 (DA.aL 1 (some 82) (.val (Value.string x47_0)) ([some (32,[(Sl3.v a0_0),(Sl3.v a0_1),(Sl3.v a0_2)]),some (32,[(Sl3.v Sl3.nil),(Sl3.v Sl3.nil),(Sl3.v Sl3.nil)]),some (32,[(Sl3.v w2_43),(Sl3.v w2_44),(Sl3.v w2_45)]),some (93,[(Value.string x47_0),(Sl3.v x47_1),(Value.int .i64 x47_2),(Value.int .i64 x47_3),(Value.string x47_4),(Sl3.v x47_5)]),some (93,[(Value.string (⟨#[]⟩:ByteArray)),(Sl3.v Sl3.nil),(Value.int .i64 0),(Value.int .i64 0),(Value.string (⟨#[]⟩:ByteArray)),(Sl3.v Sl3.nil)])]) false (DA.on 5 (DA.aH (H':=H49) 5 (some 86) (Value.agg #[(Value.string x47_0),(Sl3.v Sl3.nil),(Value.int .i64 x48_0),(Value.int .i64 x48_1),(Value.string x48_2),(Sl3.v x48_3)]) (by kernel_rfl) (DA.on 7 (DA.aL 7 none (.val undef) ([some (32,[(Sl3.v a0_0),(Sl3.v a0_1),(Sl3.v a0_2)]),some (32,[(Sl3.v Sl3.nil),(Sl3.v Sl3.nil),(Sl3.v Sl3.nil)]),some (32,[(Sl3.v w2_43),(Sl3.v w2_44),(Sl3.v w2_45)]),some (93,[(Value.string x47_0),(Sl3.v x47_1),(Value.int .i64 x47_2),(Value.int .i64 x47_3),(Value.string x47_4),(Sl3.v x47_5)]),some (93,[(Value.string x47_0),(Sl3.v Sl3.nil),(Value.int .i64 x48_0),(Value.int .i64 x48_1),(Value.string x48_2),(Sl3.v x48_3)])]) false (DA.dn ?_)))))))
     exact fun a w hs=>jsN (hs.sb 5)
  ·refine WS.nxt (WS.sq (WS.sq (WS.rg (RS.mS 4 [kI 90 0,kI 89 (x47_1.n:Int),kS 88 x47_1,kL 87 3 1] (RS.dn (WS.nxt (WS.bk 8 ?_)))))))
   obtain ⟨o,hl,h⟩:=bind_some h
   rcases o with ⟨H58,v90_59,w4_60,w4_61,w4_62,w4_63,w4_64,w4_65⟩ | r
   ·try dsimp only at h
    refine WS.lI (za2 (L:=L) (E:=E) (m:=m) (H:=H)) (L.ok hl) 5 ?_
    clear hl
    refine fun a w hs=>bkE ((WS.nxt ?_ a w hs))
    refine WS.rg (RS.mS 3 [kA 104 #[(Value.string w4_60),(Sl3.v w4_61),(Value.int .i64 w4_62),(Value.int .i64 w4_63),(Value.string w4_64),(Sl3.v w4_65)],kS 103 w2_45,kL 102 2 2] ?_)
    obtain ⟨⟨s66,H67⟩,hx,h⟩:=bind_some h
    try dsimp only at h
    refine RS.o (H':=H67) (some 105) (Sl3.v s66) (Abs.run_newR (by kernel_rfl) (by kernel_rfl) hx) ?_
    obtain ⟨⟨s68,H69⟩,hx,h⟩:=bind_some h
    try dsimp only at h
    refine RS.o (H':=H69) (some 106) (Sl3.v s68) (Abs.run_app (x:=.tmp 103) (y:=.tmp 105) (ts:=#[30,30]) (s:=w2_45) (z:=s66) (by kernel_rfl) (by kernel_rfl) (by kernel_rfl) (by kernel_rfl) hx) (RS.mL 2 [kL 107 2 2] ([some (32,[(Sl3.v a0_0),(Sl3.v a0_1),(Sl3.v a0_2)]),some (32,[(Sl3.v Sl3.nil),(Sl3.v Sl3.nil),(Sl3.v Sl3.nil)]),some (32,[(Sl3.v w2_43),(Sl3.v w2_44),(Sl3.v s68)]),some (93,[(Value.string x47_0),(Sl3.v x47_1),(Value.int .i64 x47_2),(Value.int .i64 x47_3),(Value.string x47_4),(Sl3.v x47_5)]),some (93,[(Value.string w4_60),(Sl3.v w4_61),(Value.int .i64 w4_62),(Value.int .i64 w4_63),(Value.string w4_64),(Sl3.v w4_65)])]) (RS.dn ?_))
    refine fun a w hs=>bkN ((WS.nxt ?_ a w hs))
    refine WS.rg (RS.mS 2 [kI 77 (IntKind.i64.wrap (v77_42+1)),kI 108 (IntKind.i64.wrap (v77_42+1))] (RS.dn ?_))
    cases h
    exact fun a w hs=>lsN rfl (hs.sb 3)
   ·try dsimp only at h
    refine WS.lR (za2 (L:=L) (E:=E) (m:=m) (H:=H)) (L.ok hl) 5 ?_
    cases h
    exact fun a w hq=>bkR (sqR (bkR (sqR (lsR rfl hq))))
 ·refine WS.fx 78 false (decide_eq_false hp) (WS.cF (WS.ex 6 ?_))
  cases h
  exact fun a w hs=>sqE (lsB rfl (hs.sb 3))
theorem zcp {L:LC} {m:Nat} {H:AH} {a0_0 a0_1 a0_2:Sl3} {r:(Sl3×Sl3×Sl3×AH)} (h:z7p L m H a0_0 a0_1 a0_2=some r) :
  CallS Tryz.prog (NE.plain 114) m 26 #[(Value.agg #[(Sl3.v a0_0),(Sl3.v a0_1),(Sl3.v a0_2)])] H (z1j r) (z1t H r):=by
 refine CallS.mk (args:=[(Value.agg #[(Sl3.v a0_0),(Sl3.v a0_1),(Sl3.v a0_2)])]) Tryz.func26 (B:=B26) (by kernel_rfl) (fun E _=>?_)
 unfold z7p at h
 refine WS.sq (WS.rg (RS.mL 2 [kL 2 1 0,kL 1 0 0] ([some (32,[(Sl3.v a0_0),(Sl3.v a0_1),(Sl3.v a0_2)]),some (32,[(Sl3.v Sl3.nil),(Sl3.v Sl3.nil),(Sl3.v Sl3.nil)])]) (RS.dn (WS.nxt (WS.sq (WS.rg (RS.mS 2 [kS 18 a0_0,kL 17 0 0] ?_)))))))
 obtain ⟨⟨x1,H2⟩,hx,h⟩:=bind_some h
 try dsimp only at h
 refine RS.cl (some 19) (v:=(Sl3.v x1)) 44 #[(Sl3.v a0_0)] (z55 hx) (RS.mL 3 [kL 3 2 0,kA 20 #[(Sl3.v x1),(Sl3.v Sl3.nil),(Sl3.v Sl3.nil)]] ([some (32,[(Sl3.v a0_0),(Sl3.v a0_1),(Sl3.v a0_2)]),some (32,[(Sl3.v Sl3.nil),(Sl3.v Sl3.nil),(Sl3.v Sl3.nil)]),some (32,[(Sl3.v x1),(Sl3.v Sl3.nil),(Sl3.v Sl3.nil)])]) (RS.dn (WS.nxt (WS.sq (WS.sq (WS.rg (RS.mS 4 [kI 24 0,kI 23 (a0_1.n:Int),kS 22 a0_1,kL 21 0 1] (RS.dn (WS.nxt ?_)))))))))
 refine WS.bk 0 ?_
 obtain ⟨o,hl,h⟩:=bind_some h
 rcases o with ⟨H36,v24_37,w2_38,w2_39,w2_40⟩ | r
 ·try dsimp only at h
  refine WS.lI (z9o (L:=L) (E:=E) (m:=m) (H:=H)) (L.ok hl) 3 ?_
  clear hl
  refine fun a w hs=>bkE ((WS.nxt ?_ a w hs))
  refine WS.sq (WS.sq (WS.rg (RS.mS 4 [kI 77 0,kI 76 (a0_2.n:Int),kS 75 a0_2,kL 74 0 2] (RS.dn (WS.nxt (WS.bk 6 ?_))))))
  obtain ⟨o,hl,h⟩:=bind_some h
  rcases o with ⟨H70,v77_71,w2_72,w2_73,w2_74⟩ | r
  ·try dsimp only at h
   refine WS.lI (z9w (L:=L) (E:=E) (m:=m) (H:=H)) (L.ok hl) 3 ?_
   clear hl
   refine fun a w hs=>bkE ((WS.nxt ?_ a w hs))
   refine WS.sq (WS.rg (RS.mL 2 [kA 109 #[(Sl3.v w2_72),(Sl3.v w2_73),(Sl3.v w2_74)]] ([some (32,[(Sl3.v a0_0),(Sl3.v a0_1),(Sl3.v a0_2)]),some (32,[(Sl3.v w2_72),(Sl3.v w2_73),(Sl3.v w2_74)]),some (32,[(Sl3.v w2_72),(Sl3.v w2_73),(Sl3.v w2_74)])]) (RS.dn (WS.nxt (WS.rt ?_)))))
   cases h
   exact fun a w hs=>rtR (rS hs)
  ·try dsimp only at h
   refine WS.lR (z9w (L:=L) (E:=E) (m:=m) (H:=H)) (L.ok hl) 3 ?_
   cases h
   exact fun a w hq=>bkR (sqR (rtR hq))
 ·try dsimp only at h
  refine WS.lR (z9o (L:=L) (E:=E) (m:=m) (H:=H)) (L.ok hl) 3 ?_
  cases h
  exact fun a w hq=>bkR (sqR (rtR hq))
def z9f:(Sl3×Sl3×Sl3×AH)→Value
 | (r0,r1,r2,_)=>(Value.agg #[(Sl3.v r0),(Sl3.v r1),(Sl3.v r2)])
def zas (_:AH):(Sl3×Sl3×Sl3×AH)→AH:=fun r=>r.2.2.2
noncomputable def B12:Code:=(Tryz.f12.body).getD .skip
noncomputable def z92 (L:LC) (m:Nat) (H:AH) (a0:Option Addr):Option (Sl3×Sl3×Sl3×AH) :=
 Option.bind (z12 L H a0) fun x1 =>
 if x1=true then
  Option.bind a0 fun q2 =>
  Option.bind (rd deSl H (Addr.add (Addr.add q2 0) 0)) fun x3_0 =>
  Option.bind (rd deSl H (Addr.add (Addr.add q2 0) 1)) fun x3_1 =>
  Option.bind (rd deSl H (Addr.add (Addr.add q2 0) 2)) fun x3_2 =>
  Option.bind (z7p L m H x3_0 x3_1 x3_2) fun (x4_0,x4_1,x4_2,H5) =>
  some (x4_0,x4_1,x4_2,H5)
 else
  none
theorem zhr {L:LC} {m:Nat} {H:AH} {a0:Option Addr} {r:(Sl3×Sl3×Sl3×AH)} (h:z92 L m H a0=some r) :
  CallS Tryz.prog (NE.plain 114) m 12 #[(Value.pointer a0)] H (z9f r) (zas H r):=by
 refine CallS.mk (args:=[(Value.pointer a0)]) Tryz.func12 (B:=B12) (by kernel_rfl) (fun E _=>?_)
 unfold z92 at h
 refine WS.sq (WS.rg (RS.mL 1 [kL 2 0 0] ([some (32,[(Sl3.v Sl3.nil),(Sl3.v Sl3.nil),(Sl3.v Sl3.nil)])]) (RS.dn (WS.nxt (WS.sq (WS.sq (WS.rg (RS.mS 1 [(3,.val (Value.pointer a0))] ?_))))))))
 obtain ⟨x1,hx,h⟩:=bind_some h
 refine RS.cl (some 4) (v:=(Value.bool x1)) 25 #[(Value.pointer a0)] (z18 hx) (RS.mS 1 [kB 5 (!x1)] (RS.dn (WS.nxt ?_)))
 rcases z0 h with ⟨hp,h⟩ | ⟨hp,h⟩
 ·refine WS.fx 5 false (nb_not hp) (WS.cF (WS.sk (WS.nxt (WS.sq (WS.rg (RS.mS 1 [(7,.val (Value.pointer a0))] ?_))))))
  obtain ⟨q2,hx,hq2⟩:=bind_some h
  subst hx
  have h:=hq2
  refine RS.mS 2 [(9,.val (Value.pointer (some (Addr.add q2 0)))),kP 8 q2] ?_
  obtain ⟨x3_0,hx0,h⟩:=bind_some h
  obtain ⟨x3_1,hx1,h⟩:=bind_some h
  obtain ⟨x3_2,hx2,h⟩:=bind_some h
  refine RS.la 10 32 (.tmp 9) 3 (z2 (z1 hx0 z3) (z2 (z1 hx1 z3) (z2 (z1 hx2 z3) za))) ?_
  obtain ⟨⟨x4_0,x4_1,x4_2,H5⟩,hx,h⟩:=bind_some h
  try dsimp only at h
  refine RS.cl (some 11) (v:=(Value.agg #[(Sl3.v x4_0),(Sl3.v x4_1),(Sl3.v x4_2)])) 26 #[(Value.agg #[(Sl3.v x3_0),(Sl3.v x3_1),(Sl3.v x3_2)])] (zcp hx) (RS.mL 1 [] ([some (32,[(Sl3.v x4_0),(Sl3.v x4_1),(Sl3.v x4_2)])]) (RS.dn (WS.nxt (WS.rt ?_))))
  cases h
  exact fun a w hs=>rtR (rS hs)
 ·refine WS.fx 5 true (zk hp) (WS.cT ?_)
  cases h
def z9n:AH→Value
 | _=>(Value.tuple #[])
def zb0 (_:AH):AH→AH:=fun r=>r
noncomputable def B27:Code:=(Tryz.f27.body).getD .skip
noncomputable def z5z (_L:LC) (_a0:Sl3):(AH×Int×Int)→Option (Lp (AH×Int×Int) AH):=fun (H1,v2_2,v3_3) =>
 if v2_2<v3_3 then
  none
 else
  some (.brk (H1,v2_2,v3_3))
def zf8 (_L:LC) (a0:Sl3):(AH×Int×Int)→KN×Lcs:=fun (_,v2_2,v3_3)=>([kI 2 v2_2,kI 3 v3_3,kS 0 a0],[])
noncomputable def z95 (L:LC) (_m:Nat) (H:AH) (a0:Sl3):Option AH :=
 Option.bind (L.run (z5z L a0) (H,0,(IntKind.i64.wrap ((a0.n:Int) - 1)))) fun o=>match o with
 | .inl (H4,_,_) =>
  some H4
 | .inr r=>some r
theorem z7w {E m H L a0} :LoopF Tryz.prog (NE.plain 114) m E Tryz.f27 ((cfst (csnd B27))) (zf8 L a0) (fun s=>s.1) 0 z9n (zb0 H) (z5z L a0):=by
 rintro ⟨H1,v2_2,v3_3⟩ o h
 unfold z5z at h
 try dsimp only at h
 refine WS.sq (WS.sq (WS.rg (RS.mS 3 [kB 9 (decide (v2_2<v3_3)),kI 8 v3_3,kI 7 v2_2] (RS.dn (WS.nxt ?_)))))
 rcases z0 h with ⟨hp,h⟩ | ⟨hp,h⟩
 ·refine WS.fx 9 true (decide_eq_true hp) (WS.cT ?_)
  cases h
 ·refine WS.fx 9 false (decide_eq_false hp) (WS.cF (WS.ex 0 ?_))
  cases h
  exact fun a w hs=>sqE (lsB rfl (hs.sb 0))
theorem zhh {L:LC} {m:Nat} {H:AH} {a0:Sl3} {r:AH} (h:z95 L m H a0=some r) :
  CallS Tryz.prog (NE.plain 114) m 27 #[(Sl3.v a0)] H (z9n r) (zb0 H r):=by
 refine CallS.mk (args:=[(Sl3.v a0)]) Tryz.func27 (B:=B27) (by kernel_rfl) (fun E _=>?_)
 unfold z95 at h
 refine WS.sq (WS.rg (RS.mS 5 [kI 3 (IntKind.i64.wrap ((a0.n:Int) - 1)),kI 2 0,kI 6 (IntKind.i64.wrap ((a0.n:Int) - 1)),kI 5 (a0.n:Int),kS 4 a0] (RS.dn (WS.nxt (WS.bk 0 ?_)))))
 obtain ⟨o,hl,h⟩:=bind_some h
 rcases o with ⟨H4,v2_5,v3_6⟩ | r
 ·try dsimp only at h
  refine WS.lI (z7w (L:=L) (E:=E) (m:=m) (H:=H)) (L.ok hl) 0 ?_
  clear hl
  cases h
  exact fun a w hs=>bkE (rtN (rS hs))
 ·try dsimp only at h
  refine WS.lR (z7w (L:=L) (E:=E) (m:=m) (H:=H)) (L.ok hl) 0 ?_
  cases h
  exact fun a w hq=>bkR (rtR hq)
end Go.Proofs.YthhbfmgipdbilaaGreatDoor
namespace Go.Proofs.YthhbfmgipdbilaaGreatDoor
open Go Go.Abs
set_option maxRecDepth 100000
def z1c:(Sl3×AH)→Value
 | (r0,_)=>(Sl3.v r0)
def z1f (_:AH):(Sl3×AH)→AH:=fun r=>r.2
noncomputable def B13:Code:=(Tryz.f13.body).getD .skip
noncomputable def z4f (_L:LC) (m:Nat) (a1:Sl3) (_q2:Addr) (s4:Sl3):(AH×Int)→Option (Lp (AH×Int) (Sl3×AH)):=fun (H6,v23_7) =>
 if v23_7<(a1.n:Int) then
  Option.bind (idxA 1 a1 v23_7) fun p8 =>
  Option.bind (rd (deI .i64) H6 p8) fun x9 =>
  if x9≥0 then
   if x9<(s4.n:Int) then
    Option.bind (idxA 1 s4 x9) fun p10 =>
    Option.bind (H6.setCell m p10 (Value.bool true)) fun H11 =>
    some (.next (H11,(IntKind.i64.wrap (v23_7+1))))
   else
    none
  else
   none
 else
  some (.brk (H6,v23_7))
def zd7 (_L:LC) (_m:Nat) (a1:Sl3) (q2:Addr) (s4:Sl3):(AH×Int)→KN×Lcs:=fun (_,v23_7)=>([kI 23 v23_7,kP 0 q2,kS 5 s4,kS 21 a1,kI 22 (a1.n:Int)],[])
noncomputable def z4d (_L:LC) (_q2:Addr) (_s4:Sl3) (_v9_16:Int) (_s21 x25:Sl3):(AH×Int)→Option (Lp (AH×Int) (Sl3×AH)):=fun (H26,v65_27) =>
 if v65_27<(x25.n:Int) then
  none
 else
  some (.brk (H26,v65_27))
def zdm (_L:LC) (q2:Addr) (s4:Sl3) (v9_16:Int) (s21 x25:Sl3):(AH×Int)→KN×Lcs:=fun (_,v65_27)=>([kI 65 v65_27,kP 0 q2,kS 5 s4,kS 8 s21,kI 9 v9_16,kS 63 x25,kI 64 (x25.n:Int)],[])
noncomputable def z4b (L:LC) (m:Nat) (q2:Addr) (s4:Sl3):(AH×Sl3×Int)→Option (Lp (AH×Sl3×Int) (Sl3×AH)):=fun (H14,v8_15,v9_16) =>
 if v9_16≥0 then
  Option.bind (idxA 1 s4 v9_16) fun p17 =>
  Option.bind (rd deB H14 p17) fun x18 =>
  if x18=true then
   Option.bind (newR 3 1 #[(Value.int .i64 v9_16)] H14) fun (s19,H20) =>
   Option.bind (appS m 3 1 8 H20 v8_15 s19) fun (s21,H22) =>
   Option.bind (rd deSl H22 (Addr.add q2 3)) fun x23 =>
   Option.bind (idxA 16 x23 v9_16) fun p24 =>
   Option.bind (rd deSl H22 (Addr.add (Addr.add p24 0) 11)) fun x25 =>
   Option.bind (L.run (z4d L q2 s4 v9_16 s21 x25) (H22,0)) fun o=>match o with
   | .inl (H28,_) =>
    some (.next (H28,s21,(IntKind.i64.wrap (v9_16 - 1))))
   | .inr r=>some (.ret r)
  else
   none
 else
  some (.brk (H14,v8_15,v9_16))
def zdl (_L:LC) (_m:Nat) (q2:Addr) (s4:Sl3):(AH×Sl3×Int)→KN×Lcs:=fun (_,v8_15,v9_16)=>([kS 8 v8_15,kI 9 v9_16,kP 0 q2,kS 5 s4],[])
noncomputable def z6v (L:LC) (m:Nat) (H:AH) (a0:Option Addr) (a1:Sl3):Option (Sl3×AH) :=
 Option.bind (z12 L H a0) fun x1 =>
 if x1=true then
  Option.bind a0 fun q2 =>
  Option.bind (rd deSl H (Addr.add q2 3)) fun x3 =>
  Option.bind (mkS 4 1 1 #[(Value.bool false)] H (x3.n:Int) (x3.n:Int)) fun (s4,H5) =>
  Option.bind (L.run (z4f L m a1 q2 s4) (H5,0)) fun o=>match o with
  | .inl (H12,_) =>
   Option.bind (L.run (z4b L m q2 s4) (H12,Sl3.nil,(IntKind.i64.wrap ((s4.n:Int) - 1)))) fun o=>match o with
   | .inl (H30,v8_31,_) =>
    Option.bind (z95 L m H30 v8_31) fun H33 =>
    some (v8_31,H33)
   | .inr r=>some r
  | .inr r=>some r
 else
  none
theorem z6d {E H L m a1 q2 s4} :LoopF Tryz.prog (NE.plain 114) m E Tryz.f13 ((cfst (csnd (cfst (csnd (csnd (csnd B13))))))) (zd7 L m a1 q2 s4) (fun s=>s.1) 0 z1c (z1f H) (z4f L m a1 q2 s4):=by
 rintro ⟨H6,v23_7⟩ o h
 unfold z4f at h
 try dsimp only at h
 refine WS.sq (WS.rg (RS.mS 1 [kB 24 (decide (v23_7<(a1.n:Int)))] (RS.dn (WS.nxt (WS.sq ?_)))))
 rcases z0 h with ⟨hp,h⟩ | ⟨hp,h⟩
 ·refine WS.fx 24 true (decide_eq_true hp) (WS.cT (WS.sk (WS.nxt (WS.sq (WS.bk 1 (WS.sq (WS.rg ?_)))))))
  obtain ⟨p8,hx,h⟩:=bind_some h
  refine RS.ix 25 22 3 (.tmp 21) (.tmp 23) hx ?_
  obtain ⟨x9,hx,h⟩:=bind_some h
  refine RS.ld 26 3 (.tmp 25) (z1 hx z8) (RS.mS 1 [kI 7 x9] (RS.dn (WS.nxt (WS.sq (WS.rg (RS.mS 3 [kB 29 (decide (x9≥0)),kB 28 (decide (x9≥0)),kI 27 x9] ?_))))))
  rcases z0 h with ⟨hp,h⟩ | ⟨hp,h⟩
  ·refine RS.fx 29 true (decide_eq_true hp) (RS.mS 5 [kB 34 (decide (x9<(s4.n:Int))),kB 33 (decide (x9<(s4.n:Int))),kI 32 (s4.n:Int),kS 31 s4,kI 30 x9] (RS.dn (WS.nxt ?_)))
   rcases z0 h with ⟨hp,h⟩ | ⟨hp,h⟩
   ·refine WS.fx 34 true (decide_eq_true hp) (WS.cT (WS.rg (RS.mS 2 [kI 36 x9,kS 35 s4] ?_)))
    obtain ⟨p10,hx,h⟩:=bind_some h
    refine RS.ix 37 98 4 (.tmp 35) (.tmp 36) hx ?_
    obtain ⟨H11,hx,h⟩:=bind_some h
    refine RS.o (H':=H11) none undef (Abs.run_store1 (t:=4) (x:=.tmp 37) (y:=.const (Value.bool true)) (a:=p10) (v:=(Value.bool true)) (by kernel_rfl) (by kernel_rfl) (by kernel_rfl) (by kernel_rfl) (by kernel_rfl) hx) (RS.dn ?_)
    refine fun a w hs=>bkN ((WS.nxt ?_ a w hs))
    refine WS.rg (RS.mS 2 [kI 23 (IntKind.i64.wrap (v23_7+1)),kI 38 (IntKind.i64.wrap (v23_7+1))] (RS.dn ?_))
    cases h
    exact fun a w hs=>lsN rfl (hs.sb 0)
   ·refine WS.fx 34 false (decide_eq_false hp) (WS.cF ?_)
    cases h
  ·refine RS.fx 29 false (decide_eq_false hp) ?_
   cases h
 ·refine WS.fx 24 false (decide_eq_false hp) (WS.cF (WS.ex 0 ?_))
  cases h
  exact fun a w hs=>sqE (lsB rfl (hs.sb 0))
theorem z6k {E m H L q2 s4 v9_16 s21 x25} :LoopF Tryz.prog (NE.plain 114) m E Tryz.f13 ((cfst (csnd (csnd (csnd (cfst (cfst (csnd (cfst (cfst (csnd (cfst (csnd (csnd (csnd (csnd (csnd B13))))))))))))))))) (zdm L q2 s4 v9_16 s21 x25) (fun s=>s.1) 4 z1c (z1f H) (z4d L q2 s4 v9_16 s21 x25):=by
 rintro ⟨H26,v65_27⟩ o h
 unfold z4d at h
 try dsimp only at h
 refine WS.sq (WS.rg (RS.mS 1 [kB 66 (decide (v65_27<(x25.n:Int)))] (RS.dn (WS.nxt (WS.sq ?_)))))
 rcases z0 h with ⟨hp,h⟩ | ⟨hp,h⟩
 ·refine WS.fx 66 true (decide_eq_true hp) (WS.cT ?_)
  cases h
 ·refine WS.fx 66 false (decide_eq_false hp) (WS.cF (WS.ex 4 ?_))
  cases h
  exact fun a w hs=>sqE (lsB rfl (hs.sb 0))
theorem z6h {E H L m q2 s4} :LoopF Tryz.prog (NE.plain 114) m E Tryz.f13 ((cfst (csnd (cfst (csnd (csnd (csnd (csnd (csnd B13))))))))) (zdl L m q2 s4) (fun s=>s.1) 2 z1c (z1f H) (z4b L m q2 s4):=by
 rintro ⟨H14,v8_15,v9_16⟩ o h
 unfold z4b at h
 try dsimp only at h
 refine WS.sq (WS.sq (WS.rg (RS.mS 2 [kB 43 (decide (v9_16≥0)),kI 42 v9_16] (RS.dn (WS.nxt ?_)))))
 rcases z0 h with ⟨hp,h⟩ | ⟨hp,h⟩
 ·refine WS.fx 43 true (decide_eq_true hp) (WS.cT (WS.sk (WS.nxt (WS.sq (WS.bk 3 (WS.sq (WS.sq (WS.rg (RS.mS 2 [kI 47 v9_16,kS 46 s4] ?_)))))))))
  obtain ⟨p17,hx,h⟩:=bind_some h
  refine RS.ix 48 98 4 (.tmp 46) (.tmp 47) hx ?_
  obtain ⟨x18,hx,h⟩:=bind_some h
  refine RS.ld 49 4 (.tmp 48) (z1 hx z5n) (RS.mS 1 [kB 50 (!x18)] (RS.dn (WS.nxt ?_)))
  rcases z0 h with ⟨hp,h⟩ | ⟨hp,h⟩
  ·refine WS.fx 50 false (nb_not hp) (WS.cF (WS.sk (WS.nxt (WS.sq (WS.rg (RS.mS 2 [kI 52 v9_16,kS 51 v8_15] ?_))))))
   obtain ⟨⟨s19,H20⟩,hx,h⟩:=bind_some h
   try dsimp only at h
   refine RS.o (H':=H20) (some 53) (Sl3.v s19) (Abs.run_newR (by kernel_rfl) (by kernel_rfl) hx) ?_
   obtain ⟨⟨s21,H22⟩,hx,h⟩:=bind_some h
   try dsimp only at h
   refine RS.o (H':=H22) (some 54) (Sl3.v s21) (Abs.run_app (x:=.tmp 51) (y:=.tmp 53) (ts:=#[22,22]) (s:=v8_15) (z:=s19) (by kernel_rfl) (by kernel_rfl) (by kernel_rfl) (by kernel_rfl) hx) (RS.mS 1 [kS 8 s21] (RS.dn (WS.nxt (WS.sq (WS.rg (RS.mS 3 [(57,.val (Value.pointer (some (Addr.add q2 3)))),kP 56 q2,kP 55 q2] ?_))))))
   obtain ⟨x23,hx,h⟩:=bind_some h
   refine RS.ld 58 33 (.tmp 57) (z1 hx z3) (RS.mS 1 [kI 59 v9_16] ?_)
   obtain ⟨p24,hx,h⟩:=bind_some h
   refine RS.ix 60 33 100 (.tmp 58) (.tmp 59) hx (RS.mS 2 [(62,.val (Value.pointer (some (Addr.add (Addr.add p24 0) 11)))),(61,.val (Value.pointer (some (Addr.add p24 0))))] ?_)
   obtain ⟨x25,hx,h⟩:=bind_some h
   refine RS.ld 63 22 (.tmp 62) (z1 hx z3) (RS.mS 2 [kI 65 0,kI 64 (x25.n:Int)] (RS.dn (WS.nxt (WS.bk 4 ?_))))
   obtain ⟨o,hl,h⟩:=bind_some h
   rcases o with ⟨H28,v65_29⟩ | r
   ·try dsimp only at h
    refine WS.lI (z6k (L:=L) (E:=E) (m:=m) (H:=H)) (L.ok hl) 0 ?_
    clear hl
    refine fun a w hs=>bkE (bkN ((WS.nxt ?_ a w hs)))
    refine WS.rg (RS.mS 3 [kI 9 (IntKind.i64.wrap (v9_16 - 1)),kI 45 (IntKind.i64.wrap (v9_16 - 1)),kI 44 v9_16] (RS.dn ?_))
    cases h
    exact fun a w hs=>lsN rfl (hs.sb 0)
   ·try dsimp only at h
    refine WS.lR (z6k (L:=L) (E:=E) (m:=m) (H:=H)) (L.ok hl) 0 ?_
    cases h
    exact fun a w hq=>bkR (bkR (sqR (lsR rfl hq)))
  ·refine WS.fx 50 true (zk hp) (WS.cT ?_)
   cases h
 ·refine WS.fx 43 false (decide_eq_false hp) (WS.cF (WS.ex 2 ?_))
  cases h
  exact fun a w hs=>sqE (lsB rfl (hs.sb 0))
theorem zg5 {L:LC} {m:Nat} {H:AH} {a0:Option Addr} {a1:Sl3} {r:(Sl3×AH)} (h:z6v L m H a0 a1=some r) :
  CallS Tryz.prog (NE.plain 114) m 13 #[(Value.pointer a0),(Sl3.v a1)] H (z1c r) (z1f H r):=by
 refine CallS.mk (args:=[(Value.pointer a0),(Sl3.v a1)]) Tryz.func13 (B:=B13) (by kernel_rfl) (fun E _=>?_)
 unfold z6v at h
 refine WS.sq (WS.rg (RS.mS 1 [kS 4 Sl3.nil] (RS.dn (WS.nxt (WS.sq (WS.sq (WS.rg (RS.mS 1 [(12,.val (Value.pointer a0))] ?_))))))))
 obtain ⟨x1,hx,h⟩:=bind_some h
 refine RS.cl (some 13) (v:=(Value.bool x1)) 25 #[(Value.pointer a0)] (z18 hx) (RS.mS 1 [kB 14 (!x1)] (RS.dn (WS.nxt ?_)))
 rcases z0 h with ⟨hp,h⟩ | ⟨hp,h⟩
 ·refine WS.fx 14 false (nb_not hp) (WS.cF (WS.sk (WS.nxt (WS.sq (WS.rg (RS.mS 1 [(15,.val (Value.pointer a0))] ?_))))))
  obtain ⟨q2,hx,hq2⟩:=bind_some h
  subst hx
  have h:=hq2
  refine RS.mS 2 [(17,.val (Value.pointer (some (Addr.add q2 3)))),kP 16 q2] ?_
  obtain ⟨x3,hx,h⟩:=bind_some h
  refine RS.ld 18 33 (.tmp 17) (z1 hx z3) (RS.mS 1 [kI 19 (x3.n:Int)] ?_)
  obtain ⟨⟨s4,H5⟩,hx,h⟩:=bind_some h
  try dsimp only at h
  refine RS.o (H':=H5) (some 20) (Sl3.v s4) (Abs.run_mk (t:=98) (x:=.tmp 19) (y:=.tmp 19) (k1:=.i64) (k2:=.i64) (by kernel_rfl) (by kernel_rfl) (by kernel_rfl) (by kernel_rfl) hx) (RS.mS 1 [kS 5 s4] (RS.dn (WS.nxt (WS.sq (WS.sq (WS.rg (RS.mS 3 [kI 23 0,kI 22 (a1.n:Int),kS 21 a1] (RS.dn (WS.nxt ?_)))))))))
  refine WS.bk 0 ?_
  obtain ⟨o,hl,h⟩:=bind_some h
  rcases o with ⟨H12,v23_13⟩ | r
  ·try dsimp only at h
   refine WS.lI (z6d (L:=L) (E:=E) (m:=m) (H:=H)) (L.ok hl) 0 ?_
   clear hl
   refine fun a w hs=>bkE ((WS.nxt ?_ a w hs))
   refine WS.sq (WS.rg (RS.mS 1 [kS 8 Sl3.nil] (RS.dn (WS.nxt (WS.sq (WS.sq (WS.rg (RS.mS 4 [kI 9 (IntKind.i64.wrap ((s4.n:Int) - 1)),kI 41 (IntKind.i64.wrap ((s4.n:Int) - 1)),kI 40 (s4.n:Int),kS 39 s4] (RS.dn ?_)))))))))
   refine WS.nxt (WS.bk 2 ?_)
   obtain ⟨o,hl,h⟩:=bind_some h
   rcases o with ⟨H30,v8_31,v9_32⟩ | r
   ·try dsimp only at h
    refine WS.lI (z6h (L:=L) (E:=E) (m:=m) (H:=H)) (L.ok hl) 0 ?_
    clear hl
    refine fun a w hs=>bkE ((WS.nxt ?_ a w hs))
    refine WS.sq (WS.rg (RS.mS 1 [kS 73 v8_31] ?_))
    obtain ⟨H33,hx,h⟩:=bind_some h
    refine RS.cl (some 74) (v:=(Value.tuple #[])) 27 #[(Sl3.v v8_31)] (zhh hx) (RS.dn (WS.nxt (WS.sq (WS.rg (RS.mS 2 [kS 4 v8_31,kS 75 v8_31] (RS.dn (WS.nxt (WS.rt ?_))))))))
    cases h
    exact fun a w hs=>rtR (rS hs)
   ·try dsimp only at h
    refine WS.lR (z6h (L:=L) (E:=E) (m:=m) (H:=H)) (L.ok hl) 0 ?_
    cases h
    exact fun a w hq=>bkR (sqR (rtR hq))
  ·try dsimp only at h
   refine WS.lR (z6d (L:=L) (E:=E) (m:=m) (H:=H)) (L.ok hl) 0 ?_
   cases h
   exact fun a w hq=>bkR (sqR (rtR hq))
 ·refine WS.fx 14 true (zk hp) (WS.cT ?_)
  cases h
def z8j:(Int×Int×ByteArray×Sl3×Bool×AH)→Value
 | (r0,r1,r2,r3,r4,_)=>(Value.tuple #[(Value.agg #[(Value.int .i64 r0),(Value.int .i64 r1),(Value.string r2),(Sl3.v r3)]),(Value.bool r4)])
def z9p (_:AH):(Int×Int×ByteArray×Sl3×Bool×AH)→AH:=fun r=>r.2.2.2.2.2
noncomputable def B14:Code:=(Tryz.f14.body).getD .skip
noncomputable def z2r (L:LC) (m:Nat) (H:AH) (a0:Option Addr) (a1:Int):Option (Int×Int×ByteArray×Sl3×Bool×AH) :=
 Option.bind (z12 L H a0) fun x1 =>
 if x1=true then
  if a1<0 then
   none
  else
   Option.bind a0 fun q2 =>
   Option.bind (rd deSl H (Addr.add q2 3)) fun x3 =>
   if a1≥(x3.n:Int) then
    none
   else
    Option.bind (rd deSl H (Addr.add q2 3)) fun x4 =>
    Option.bind (idxA 16 x4 a1) fun p5 =>
    Option.bind (rd (deI .i64) H (Addr.add (Addr.add p5 12) 0)) fun x6_0 =>
    Option.bind (rd (deI .i64) H (Addr.add (Addr.add p5 12) 1)) fun x6_1 =>
    Option.bind (rd deS H (Addr.add (Addr.add p5 12) 2)) fun x6_2 =>
    Option.bind (rd deSl H (Addr.add (Addr.add p5 12) 3)) fun x6_3 =>
    Option.bind (z6q L m H x6_0 x6_1 x6_2 x6_3) fun (x7_0,x7_1,x7_2,x7_3,H8) =>
    some (x7_0,x7_1,x7_2,x7_3,true,H8)
 else
  none
theorem z52 {L:LC} {m:Nat} {H:AH} {a0:Option Addr} {a1:Int} {r:(Int×Int×ByteArray×Sl3×Bool×AH)} (h:z2r L m H a0 a1=some r) :
  CallS Tryz.prog (NE.plain 114) m 14 #[(Value.pointer a0),(Value.int .i64 a1)] H (z8j r) (z9p H r):=by
 refine CallS.mk (args:=[(Value.pointer a0),(Value.int .i64 a1)]) Tryz.func14 (B:=B14) (by kernel_rfl) (fun E _=>?_)
 unfold z2r at h
 refine WS.sq (WS.rg (RS.mL 2 [kB 5 false,kL 4 0 0] ([some (59,[(Value.int .i64 0),(Value.int .i64 0),(Value.string (⟨#[]⟩:ByteArray)),(Sl3.v Sl3.nil)])]) (RS.dn (WS.nxt (WS.sq (WS.sq (WS.rg (RS.mS 1 [(6,.val (Value.pointer a0))] ?_))))))))
 obtain ⟨x1,hx,h⟩:=bind_some h
 refine RS.cl (some 7) (v:=(Value.bool x1)) 25 #[(Value.pointer a0)] (z18 hx) (RS.mS 2 [kB 9 (!x1),kB 8 (!x1)] ?_)
 rcases z0 h with ⟨hp,h⟩ | ⟨hp,h⟩
 ·refine RS.fx 9 false (nb_not hp) (RS.mS 4 [kB 13 (decide (a1<0)),kB 12 (decide (a1<0)),kB 11 (decide (a1<0)),kI 10 a1] ?_)
  rcases z0 h with ⟨hp,h⟩ | ⟨hp,h⟩
  ·refine RS.fx 13 true (decide_eq_true hp) ?_
   cases h
  ·refine RS.fx 13 false (decide_eq_false hp) (RS.mS 2 [(15,.val (Value.pointer a0)),kI 14 a1] ?_)
   obtain ⟨q2,hx,hq2⟩:=bind_some h
   subst hx
   have h:=hq2
   refine RS.mS 2 [(17,.val (Value.pointer (some (Addr.add q2 3)))),kP 16 q2] ?_
   obtain ⟨x3,hx,h⟩:=bind_some h
   refine RS.ld 18 33 (.tmp 17) (z1 hx z3) (RS.mS 3 [kB 21 (decide (a1≥(x3.n:Int))),kB 20 (decide (a1≥(x3.n:Int))),kI 19 (x3.n:Int)] (RS.dn (WS.nxt ?_)))
   rcases z0 h with ⟨hp,h⟩ | ⟨hp,h⟩
   ·refine WS.fx 21 true (decide_eq_true hp) (WS.cT ?_)
    cases h
   ·refine WS.fx 21 false (decide_eq_false hp) (WS.cF (WS.sk (WS.nxt (WS.sq (WS.rg (RS.mS 3 [(25,.val (Value.pointer (some (Addr.add q2 3)))),kP 24 q2,kP 23 q2] ?_))))))
    obtain ⟨x4,hx,h⟩:=bind_some h
    refine RS.ld 26 33 (.tmp 25) (z1 hx z3) (RS.mS 1 [kI 27 a1] ?_)
    obtain ⟨p5,hx,h⟩:=bind_some h
    refine RS.ix 28 33 100 (.tmp 26) (.tmp 27) hx (RS.mS 1 [(29,.val (Value.pointer (some (Addr.add p5 12))))] ?_)
    obtain ⟨x6_0,hx0,h⟩:=bind_some h
    obtain ⟨x6_1,hx1,h⟩:=bind_some h
    obtain ⟨x6_2,hx2,h⟩:=bind_some h
    obtain ⟨x6_3,hx3,h⟩:=bind_some h
    refine RS.la 30 59 (.tmp 29) 4 (z2 (z1 hx0 z8) (z2 (z1 hx1 z8) (z2 (z1 hx2 z9) (z2 (z1 hx3 z3) za)))) ?_
    obtain ⟨⟨x7_0,x7_1,x7_2,x7_3,H8⟩,hx,h⟩:=bind_some h
    try dsimp only at h
    refine RS.cl (some 31) (v:=(Value.agg #[(Value.int .i64 x7_0),(Value.int .i64 x7_1),(Value.string x7_2),(Sl3.v x7_3)])) 28 #[(Value.agg #[(Value.int .i64 x6_0),(Value.int .i64 x6_1),(Value.string x6_2),(Sl3.v x6_3)])] (zr hx) (RS.mL 2 [kB 5 true] ([some (59,[(Value.int .i64 x7_0),(Value.int .i64 x7_1),(Value.string x7_2),(Sl3.v x7_3)])]) (RS.dn (WS.nxt (WS.rt ?_))))
    cases h
    exact fun a w hs=>rtR (rS hs)
 ·refine RS.fx 9 true (zk hp) ?_
  cases h
def z8p:AH→Value
 | _=>(Value.tuple #[])
def z9e (_:AH):AH→AH:=fun r=>r
noncomputable def B15:Code:=(Tryz.f15.body).getD .skip
noncomputable def z4p (_L:LC) (m:Nat) (H:AH) (a0:Option Addr) (a1:Int):Option AH :=
 Option.bind a0 fun q1 =>
 Option.bind (rd deM H (Addr.add q1 1)) fun x2 =>
 Option.bind (lk1 Tryz.prog 50 (deI .i64) H x2 (Value.int .i64 a1)) fun x3 =>
 Option.bind (upM Tryz.prog m 50 H x2 (Value.int .i64 a1) (Value.int .i64 (IntKind.i64.wrap (x3+1)))) fun H4 =>
 Option.bind (rd deM H4 (Addr.add q1 1)) fun x5 =>
 Option.bind (lk1 Tryz.prog 50 (deI .i64) H4 x5 (Value.int .i64 a1)) fun x6 =>
 if x6=1 then
  Option.bind (rd deSl H4 (Addr.add q1 0)) fun x7 =>
  Option.bind (newR 3 1 #[(Value.int .i64 a1)] H4) fun (s8,H9) =>
  Option.bind (appS m 3 1 8 H9 x7 s8) fun (s10,H11) =>
  Option.bind (H11.setCell m (Addr.add q1 0) (Sl3.v s10)) fun H12 =>
  some H12
 else
  some H4
theorem z9j {L:LC} {m:Nat} {H:AH} {a0:Option Addr} {a1:Int} {r:AH} (h:z4p L m H a0 a1=some r) :
  CallS Tryz.prog (NE.plain 114) m 15 #[(Value.pointer a0),(Value.int .i64 a1)] H (z8p r) (z9e H r):=by
 refine CallS.mk (args:=[(Value.pointer a0),(Value.int .i64 a1)]) Tryz.func15 (B:=B15) (by kernel_rfl) (fun E _=>?_)
 unfold z4p at h
 refine WS.sq (WS.rg (RS.mS 1 [(4,.val (Value.pointer a0))] ?_))
 obtain ⟨q1,hx,hq1⟩:=bind_some h
 subst hx
 have h:=hq1
 refine RS.mS 2 [(6,.val (Value.pointer (some (Addr.add q1 1)))),kP 5 q1] ?_
 obtain ⟨x2,hx,h⟩:=bind_some h
 refine RS.ld 7 50 (.tmp 6) (z1 hx z15) (RS.mS 1 [kI 8 a1] ?_)
 obtain ⟨x3,hx,h⟩:=bind_some h
 refine RS.o (H':=H) (some 9) (Value.int .i64 x3) (Abs.run_look (t:=50) (x:=.tmp 7) (y:=.tmp 8) (mm:=x2) (k:=(Value.int .i64 a1)) (by kernel_rfl) (by kernel_rfl) (by kernel_rfl) (by kernel_rfl) (lk1_eq hx z8)) (RS.mS 1 [kI 10 (IntKind.i64.wrap (x3+1))] ?_)
 obtain ⟨H4,hx,h⟩:=bind_some h
 refine RS.o (H':=H4) none undef (Abs.run_upM (t:=50) (x:=.tmp 7) (y:=.tmp 8) (z:=.tmp 10) (mm:=x2) (k:=(Value.int .i64 a1)) (v:=(Value.int .i64 (IntKind.i64.wrap (x3+1)))) (by kernel_rfl) (by kernel_rfl) (by kernel_rfl) (by kernel_rfl) (by kernel_rfl) hx) (RS.dn (WS.nxt (WS.sq (WS.rg (RS.mS 3 [(13,.val (Value.pointer (some (Addr.add q1 1)))),kP 12 q1,kP 11 q1] ?_)))))
 obtain ⟨x5,hx,h⟩:=bind_some h
 refine RS.ld 14 50 (.tmp 13) (z1 hx z15) (RS.mS 1 [kI 15 a1] ?_)
 obtain ⟨x6,hx,h⟩:=bind_some h
 refine RS.o (H':=H4) (some 16) (Value.int .i64 x6) (Abs.run_look (t:=50) (x:=.tmp 14) (y:=.tmp 15) (mm:=x5) (k:=(Value.int .i64 a1)) (by kernel_rfl) (by kernel_rfl) (by kernel_rfl) (by kernel_rfl) (lk1_eq hx z8)) (RS.mS 1 [kB 17 (decide (x6=1))] (RS.dn (WS.nxt ?_)))
 rcases z0 h with ⟨hp,h⟩ | ⟨hp,h⟩
 ·refine WS.fx 17 true (decide_eq_true hp) (WS.cT (WS.rg (RS.mS 4 [(21,.val (Value.pointer (some (Addr.add q1 0)))),kP 20 q1,kP 19 q1,kP 18 q1] ?_)))
  obtain ⟨x7,hx,h⟩:=bind_some h
  refine RS.ld 22 22 (.tmp 21) (z1 hx z3) (RS.mS 1 [kI 23 a1] ?_)
  obtain ⟨⟨s8,H9⟩,hx,h⟩:=bind_some h
  try dsimp only at h
  refine RS.o (H':=H9) (some 24) (Sl3.v s8) (Abs.run_newR (by kernel_rfl) (by kernel_rfl) hx) ?_
  obtain ⟨⟨s10,H11⟩,hx,h⟩:=bind_some h
  try dsimp only at h
  refine RS.o (H':=H11) (some 25) (Sl3.v s10) (Abs.run_app (x:=.tmp 22) (y:=.tmp 24) (ts:=#[22,22]) (s:=x7) (z:=s8) (by kernel_rfl) (by kernel_rfl) (by kernel_rfl) (by kernel_rfl) hx) (RS.mS 2 [(27,.val (Value.pointer (some (Addr.add q1 0)))),kP 26 q1] ?_)
  obtain ⟨H12,hx,h⟩:=bind_some h
  refine RS.o (H':=H12) none undef (Abs.run_store1 (t:=22) (x:=.tmp 27) (y:=.tmp 25) (a:=(Addr.add q1 0)) (v:=(Sl3.v s10)) (by kernel_rfl) (by kernel_rfl) (by kernel_rfl) (by kernel_rfl) (by kernel_rfl) hx) (RS.dn ?_)
  cases h
  exact fun a w hs=>rtN (rS hs)
 ·refine WS.fx 17 false (decide_eq_false hp) (WS.cF (WS.sk ?_))
  cases h
  exact fun a w hs=>rtN (rS hs)
def z82:(Int×Bool×AH)→Value
 | (r0,r1,_)=>(Value.tuple #[(Value.int .i64 r0),(Value.bool r1)])
def z8o (_:AH):(Int×Bool×AH)→AH:=fun r=>r.2.2
noncomputable def B16:Code:=(Tryz.f16.body).getD .skip
noncomputable def z6x (_L:LC) (m:Nat) (H:AH) (a0:Option Addr):Option (Int×Bool×AH) :=
 Option.bind a0 fun q1 =>
 Option.bind (rd deSl H (Addr.add q1 0)) fun x2 =>
 if (x2.n:Int)=0 then
  some (0,false,H)
 else
  Option.bind (rd deSl H (Addr.add q1 0)) fun x3 =>
  Option.bind (idxA 1 x3 0) fun p4 =>
  Option.bind (rd (deI .i64) H p4) fun x5 =>
  Option.bind (rd deSl H (Addr.add q1 0)) fun x6 =>
  Option.bind (slc 1 H x6 (some 1) none none) fun s7 =>
  Option.bind (H.setCell m (Addr.add q1 0) (Sl3.v s7)) fun H8 =>
  some (x5,true,H8)
theorem zg4 {L:LC} {m:Nat} {H:AH} {a0:Option Addr} {r:(Int×Bool×AH)} (h:z6x L m H a0=some r) :
  CallS Tryz.prog (NE.plain 114) m 16 #[(Value.pointer a0)] H (z82 r) (z8o H r):=by
 refine CallS.mk (args:=[(Value.pointer a0)]) Tryz.func16 (B:=B16) (by kernel_rfl) (fun E _=>?_)
 unfold z6x at h
 refine WS.sq (WS.rg (RS.mS 2 [kB 3 false,kI 2 0] (RS.dn (WS.nxt (WS.sq (WS.rg (RS.mS 1 [kI 4 0] (RS.dn (WS.nxt ?_)))))))))
 refine WS.sq (WS.sq (WS.rg (RS.mS 1 [(6,.val (Value.pointer a0))] ?_)))
 obtain ⟨q1,hx,hq1⟩:=bind_some h
 subst hx
 have h:=hq1
 refine RS.mS 2 [(8,.val (Value.pointer (some (Addr.add q1 0)))),kP 7 q1] ?_
 obtain ⟨x2,hx,h⟩:=bind_some h
 refine RS.ld 9 22 (.tmp 8) (z1 hx z3) (RS.mS 2 [kB 11 (decide ((x2.n:Int)=0)),kI 10 (x2.n:Int)] (RS.dn (WS.nxt ?_)))
 rcases z0 h with ⟨hp,h⟩ | ⟨hp,h⟩
 ·refine WS.fx 11 true (decide_eq_true hp) (WS.cT (WS.sq (WS.rg (RS.mS 3 [kB 3 false,kI 2 0,kI 12 0] (RS.dn (WS.nxt (WS.rt ?_)))))))
  cases h
  exact fun a w hs=>sqR (rtR (rS hs))
 ·refine WS.fx 11 false (decide_eq_false hp) (WS.cF (WS.sk (WS.nxt (WS.sq (WS.rg (RS.mS 3 [(15,.val (Value.pointer (some (Addr.add q1 0)))),kP 14 q1,kP 13 q1] ?_))))))
  obtain ⟨x3,hx,h⟩:=bind_some h
  refine RS.ld 16 22 (.tmp 15) (z1 hx z3) ?_
  obtain ⟨p4,hx,h⟩:=bind_some h
  refine RS.ix 17 22 3 (.tmp 16) (.const (Value.int .i64 0)) hx ?_
  obtain ⟨x5,hx,h⟩:=bind_some h
  refine RS.ld 18 3 (.tmp 17) (z1 hx z8) (RS.mS 1 [kI 5 x5] (RS.dn (WS.nxt (WS.sq (WS.rg (RS.mS 4 [(22,.val (Value.pointer (some (Addr.add q1 0)))),kP 21 q1,kP 20 q1,kP 19 q1] ?_))))))
  obtain ⟨x6,hx,h⟩:=bind_some h
  refine RS.ld 23 22 (.tmp 22) (z1 hx z3) ?_
  obtain ⟨s7,hx,h⟩:=bind_some h
  refine RS.o (H':=H) (some 24) (Sl3.v s7) (Abs.run_slice (t:=22) (e:=3) (x:=.tmp 23) (lo:=(some (.const (Value.int .i64 1)))) (hi:=none) (mx:=none) (s:=x6) (k1:=.i64) (k2:=.i64) (k3:=.i64) (by kernel_rfl) (by kernel_rfl) (by kernel_rfl) (by kernel_rfl) (by kernel_rfl) (by kernel_rfl) (by kernel_rfl) hx) (RS.mS 2 [(26,.val (Value.pointer (some (Addr.add q1 0)))),kP 25 q1] ?_)
  obtain ⟨H8,hx,h⟩:=bind_some h
  refine RS.o (H':=H8) none undef (Abs.run_store1 (t:=22) (x:=.tmp 26) (y:=.tmp 24) (a:=(Addr.add q1 0)) (v:=(Sl3.v s7)) (by kernel_rfl) (by kernel_rfl) (by kernel_rfl) (by kernel_rfl) (by kernel_rfl) hx) (RS.dn (WS.nxt (WS.sq (WS.rg (RS.mS 3 [kB 3 true,kI 2 x5,kI 27 x5] (RS.dn (WS.nxt (WS.rt ?_))))))))
  cases h
  exact fun a w hs=>rtR (rS hs)
def zie:(Sl3×AH)→Value
 | (r0,_)=>(Sl3.v r0)
def zjn (_:AH):(Sl3×AH)→AH:=fun r=>r.2
noncomputable def B30:Code:=(Tryz.f30.body).getD .skip
noncomputable def zbo (_L:LC) (_m:Nat) (H:AH) (a0:Sl3):Option (Sl3×AH) :=
 if (isNilS a0)=true then
  some (Sl3.nil,H)
 else
  none
theorem zj6 {L:LC} {m:Nat} {H:AH} {a0:Sl3} {r:(Sl3×AH)} (h:zbo L m H a0=some r) :
  CallS Tryz.prog (NE.plain 114) m 30 #[(Sl3.v a0)] H (zie r) (zjn H r):=by
 refine CallS.mk (args:=[(Sl3.v a0)]) Tryz.func30 (B:=B30) (by kernel_rfl) (fun E _=>?_)
 unfold zbo at h
 refine WS.sq (WS.rg (RS.mS 1 [kS 2 Sl3.nil] (RS.dn (WS.nxt (WS.sq (WS.sq (WS.rg (RS.mS 1 [kS 3 a0] (RS.o (H':=H) (some 4) (Value.bool (isNilS a0)) (z9d (t:=67) (e:=106) (u:=67) (x:=.tmp 3) (y:=.const (Sl3.v Sl3.nil)) (s:=a0) (by kernel_rfl) (by kernel_rfl) (by kernel_rfl) (by kernel_rfl)) ?_)))))))))
 refine RS.dn (WS.nxt ?_)
 rcases z0 h with ⟨hp,h⟩ | ⟨hp,h⟩
 ·refine WS.fx 4 true hp (WS.cT (WS.sq (WS.rg (RS.mS 1 [kS 2 Sl3.nil] (RS.dn (WS.nxt (WS.rt ?_)))))))
  cases h
  exact fun a w hs=>sqR (rtR (rS hs))
 ·refine WS.fx 4 false (b_not hp) (WS.cF ?_)
  cases h
def z8g:(Int×ByteArray×Bool×Sl3×Int×Sl3×Int×Int×ByteArray×Sl3×Sl3×Sl3×Bool×AH)→Value
 | (r0,r1,r2,r3,r4,r5,r6,r7,r8,r9,r10,r11,r12,_)=>(Value.tuple #[(Value.agg #[(Value.int .i64 r0),(Value.string r1),(Value.bool r2),(Sl3.v r3),(Value.int .i64 r4),(Sl3.v r5),(Value.int .i64 r6),(Value.int .i64 r7),(Value.string r8),(Sl3.v r9),(Sl3.v r10),(Sl3.v r11)]),(Value.bool r12)])
def z9v (_:AH):(Int×ByteArray×Bool×Sl3×Int×Sl3×Int×Int×ByteArray×Sl3×Sl3×Sl3×Bool×AH)→AH:=fun r=>r.2.2.2.2.2.2.2.2.2.2.2.2.2
noncomputable def B17:Code:=(Tryz.f17.body).getD .skip
noncomputable def z4q (L:LC) (m:Nat) (H:AH) (a0:Option Addr) (a1:Int):Option (Int×ByteArray×Bool×Sl3×Int×Sl3×Int×Int×ByteArray×Sl3×Sl3×Sl3×Bool×AH) :=
 Option.bind (z12 L H a0) fun x1 =>
 if x1=true then
  if a1<0 then
   none
  else
   Option.bind a0 fun q2 =>
   Option.bind (rd deSl H (Addr.add q2 3)) fun x3 =>
   if a1≥(x3.n:Int) then
    none
   else
    Option.bind (rd deSl H (Addr.add q2 3)) fun x4 =>
    Option.bind (idxA 16 x4 a1) fun p5 =>
    Option.bind (rd (deI .i64) H (Addr.add (Addr.add p5 0) 0)) fun x6_0 =>
    Option.bind (rd deS H (Addr.add (Addr.add p5 0) 1)) fun x6_1 =>
    Option.bind (rd deB H (Addr.add (Addr.add p5 0) 2)) fun x6_2 =>
    Option.bind (rd deSl H (Addr.add (Addr.add p5 0) 3)) fun x6_3 =>
    Option.bind (rd (deI .i64) H (Addr.add (Addr.add p5 0) 4)) fun x6_4 =>
    Option.bind (rd deSl H (Addr.add (Addr.add p5 0) 5)) fun x6_5 =>
    Option.bind (rd (deI .i64) H (Addr.add (Addr.add p5 0) 6)) fun x6_6 =>
    Option.bind (rd (deI .i64) H (Addr.add (Addr.add p5 0) 7)) fun x6_7 =>
    Option.bind (rd deS H (Addr.add (Addr.add p5 0) 8)) fun x6_8 =>
    Option.bind (rd deSl H (Addr.add (Addr.add p5 0) 9)) fun x6_9 =>
    Option.bind (rd deSl H (Addr.add (Addr.add p5 0) 10)) fun x6_10 =>
    Option.bind (rd deSl H (Addr.add (Addr.add p5 0) 11)) fun x6_11 =>
    Option.bind (zb2 L m H x6_0 x6_1 x6_2 x6_3 x6_4 x6_5 x6_6 x6_7 x6_8 x6_9 x6_10 x6_11) fun (x7_0,x7_1,x7_2,x7_3,x7_4,x7_5,x7_6,x7_7,x7_8,x7_9,x7_10,x7_11,H8) =>
    Option.bind (zbo L m H8 x7_3) fun (x9,H10) =>
    some (x7_0,x7_1,x7_2,x9,x7_4,x7_5,x7_6,x7_7,x7_8,x7_9,x7_10,x7_11,true,H10)
 else
  none
theorem z9x {L:LC} {m:Nat} {H:AH} {a0:Option Addr} {a1:Int} {r:(Int×ByteArray×Bool×Sl3×Int×Sl3×Int×Int×ByteArray×Sl3×Sl3×Sl3×Bool×AH)} (h:z4q L m H a0 a1=some r) :
  CallS Tryz.prog (NE.plain 114) m 17 #[(Value.pointer a0),(Value.int .i64 a1)] H (z8g r) (z9v H r):=by
 refine CallS.mk (args:=[(Value.pointer a0),(Value.int .i64 a1)]) Tryz.func17 (B:=B17) (by kernel_rfl) (fun E _=>?_)
 unfold z4q at h
 refine WS.sq (WS.rg (RS.mL 2 [kB 5 false,kL 4 0 0] ([some (73,[(Value.int .i64 0),(Value.string (⟨#[]⟩:ByteArray)),(Value.bool false),(Sl3.v Sl3.nil),(Value.int .i64 0),(Sl3.v Sl3.nil),(Value.int .i64 0),(Value.int .i64 0),(Value.string (⟨#[]⟩:ByteArray)),(Sl3.v Sl3.nil),(Sl3.v Sl3.nil),(Sl3.v Sl3.nil)])]) (RS.dn (WS.nxt (WS.sq (WS.sq (WS.rg (RS.mS 1 [(7,.val (Value.pointer a0))] ?_))))))))
 obtain ⟨x1,hx,h⟩:=bind_some h
 refine RS.cl (some 8) (v:=(Value.bool x1)) 25 #[(Value.pointer a0)] (z18 hx) (RS.mS 2 [kB 10 (!x1),kB 9 (!x1)] ?_)
 rcases z0 h with ⟨hp,h⟩ | ⟨hp,h⟩
 ·refine RS.fx 10 false (nb_not hp) (RS.mS 4 [kB 14 (decide (a1<0)),kB 13 (decide (a1<0)),kB 12 (decide (a1<0)),kI 11 a1] ?_)
  rcases z0 h with ⟨hp,h⟩ | ⟨hp,h⟩
  ·refine RS.fx 14 true (decide_eq_true hp) ?_
   cases h
  ·refine RS.fx 14 false (decide_eq_false hp) (RS.mS 2 [(16,.val (Value.pointer a0)),kI 15 a1] ?_)
   obtain ⟨q2,hx,hq2⟩:=bind_some h
   subst hx
   have h:=hq2
   refine RS.mS 2 [(18,.val (Value.pointer (some (Addr.add q2 3)))),kP 17 q2] ?_
   obtain ⟨x3,hx,h⟩:=bind_some h
   refine RS.ld 19 33 (.tmp 18) (z1 hx z3) (RS.mS 3 [kB 22 (decide (a1≥(x3.n:Int))),kB 21 (decide (a1≥(x3.n:Int))),kI 20 (x3.n:Int)] (RS.dn (WS.nxt ?_)))
   rcases z0 h with ⟨hp,h⟩ | ⟨hp,h⟩
   ·refine WS.fx 22 true (decide_eq_true hp) (WS.cT ?_)
    cases h
   ·refine WS.fx 22 false (decide_eq_false hp) (WS.cF (WS.sk (WS.nxt (WS.sq (WS.rg (RS.mS 3 [(26,.val (Value.pointer (some (Addr.add q2 3)))),kP 25 q2,kP 24 q2] ?_))))))
    obtain ⟨x4,hx,h⟩:=bind_some h
    refine RS.ld 27 33 (.tmp 26) (z1 hx z3) (RS.mS 1 [kI 28 a1] ?_)
    obtain ⟨p5,hx,h⟩:=bind_some h
    refine RS.ix 29 33 100 (.tmp 27) (.tmp 28) hx (RS.mS 1 [(30,.val (Value.pointer (some (Addr.add p5 0))))] ?_)
    obtain ⟨x6_0,hx0,h⟩:=bind_some h
    obtain ⟨x6_1,hx1,h⟩:=bind_some h
    obtain ⟨x6_2,hx2,h⟩:=bind_some h
    obtain ⟨x6_3,hx3,h⟩:=bind_some h
    obtain ⟨x6_4,hx4,h⟩:=bind_some h
    obtain ⟨x6_5,hx5,h⟩:=bind_some h
    obtain ⟨x6_6,hx6,h⟩:=bind_some h
    obtain ⟨x6_7,hx7,h⟩:=bind_some h
    obtain ⟨x6_8,hx8,h⟩:=bind_some h
    obtain ⟨x6_9,hx9,h⟩:=bind_some h
    obtain ⟨x6_10,hx10,h⟩:=bind_some h
    obtain ⟨x6_11,hx11,h⟩:=bind_some h
    refine RS.la 31 73 (.tmp 30) 12 (z2 (z1 hx0 z8) (z2 (z1 hx1 z9) (z2 (z1 hx2 z5n) (z2 (z1 hx3 z3) (z2 (z1 hx4 z8) (z2 (z1 hx5 z3) (z2 (z1 hx6 z8) (z2 (z1 hx7 z8) (z2 (z1 hx8 z9) (z2 (z1 hx9 z3) (z2 (z1 hx10 z3) (z2 (z1 hx11 z3) za)))))))))))) ?_
    obtain ⟨⟨x7_0,x7_1,x7_2,x7_3,x7_4,x7_5,x7_6,x7_7,x7_8,x7_9,x7_10,x7_11,H8⟩,hx,h⟩:=bind_some h
    try dsimp only at h
    refine RS.cl (some 32) (v:=(Value.agg #[(Value.int .i64 x7_0),(Value.string x7_1),(Value.bool x7_2),(Sl3.v x7_3),(Value.int .i64 x7_4),(Sl3.v x7_5),(Value.int .i64 x7_6),(Value.int .i64 x7_7),(Value.string x7_8),(Sl3.v x7_9),(Sl3.v x7_10),(Sl3.v x7_11)])) 29 #[(Value.agg #[(Value.int .i64 x6_0),(Value.string x6_1),(Value.bool x6_2),(Sl3.v x6_3),(Value.int .i64 x6_4),(Sl3.v x6_5),(Value.int .i64 x6_6),(Value.int .i64 x6_7),(Value.string x6_8),(Sl3.v x6_9),(Sl3.v x6_10),(Sl3.v x6_11)])] (zfo hx) (RS.mL 2 [kL 6 1 0] ([some (73,[(Value.int .i64 0),(Value.string (⟨#[]⟩:ByteArray)),(Value.bool false),(Sl3.v Sl3.nil),(Value.int .i64 0),(Sl3.v Sl3.nil),(Value.int .i64 0),(Value.int .i64 0),(Value.string (⟨#[]⟩:ByteArray)),(Sl3.v Sl3.nil),(Sl3.v Sl3.nil),(Sl3.v Sl3.nil)]),some (73,[(Value.int .i64 x7_0),(Value.string x7_1),(Value.bool x7_2),(Sl3.v x7_3),(Value.int .i64 x7_4),(Sl3.v x7_5),(Value.int .i64 x7_6),(Value.int .i64 x7_7),(Value.string x7_8),(Sl3.v x7_9),(Sl3.v x7_10),(Sl3.v x7_11)])]) (RS.dn (WS.nxt (WS.sq (WS.rg (RS.mS 3 [kS 35 x7_3,kL 34 1 3,kL 33 1 2] ?_))))))
    obtain ⟨⟨x9,H10⟩,hx,h⟩:=bind_some h
    try dsimp only at h
    refine RS.cl (some 36) (v:=(Sl3.v x9)) 30 #[(Sl3.v x7_3)] (zj6 hx) (RS.mL 3 [kL 38 1 3,kL 37 1 2] ([some (73,[(Value.int .i64 0),(Value.string (⟨#[]⟩:ByteArray)),(Value.bool false),(Sl3.v Sl3.nil),(Value.int .i64 0),(Sl3.v Sl3.nil),(Value.int .i64 0),(Value.int .i64 0),(Value.string (⟨#[]⟩:ByteArray)),(Sl3.v Sl3.nil),(Sl3.v Sl3.nil),(Sl3.v Sl3.nil)]),some (73,[(Value.int .i64 x7_0),(Value.string x7_1),(Value.bool x7_2),(Sl3.v x9),(Value.int .i64 x7_4),(Sl3.v x7_5),(Value.int .i64 x7_6),(Value.int .i64 x7_7),(Value.string x7_8),(Sl3.v x7_9),(Sl3.v x7_10),(Sl3.v x7_11)])]) (RS.dn (WS.nxt (WS.sq (WS.rg (RS.mL 3 [kB 5 true,kA 39 #[(Value.int .i64 x7_0),(Value.string x7_1),(Value.bool x7_2),(Sl3.v x9),(Value.int .i64 x7_4),(Sl3.v x7_5),(Value.int .i64 x7_6),(Value.int .i64 x7_7),(Value.string x7_8),(Sl3.v x7_9),(Sl3.v x7_10),(Sl3.v x7_11)]] ([some (73,[(Value.int .i64 x7_0),(Value.string x7_1),(Value.bool x7_2),(Sl3.v x9),(Value.int .i64 x7_4),(Sl3.v x7_5),(Value.int .i64 x7_6),(Value.int .i64 x7_7),(Value.string x7_8),(Sl3.v x7_9),(Sl3.v x7_10),(Sl3.v x7_11)]),some (73,[(Value.int .i64 x7_0),(Value.string x7_1),(Value.bool x7_2),(Sl3.v x9),(Value.int .i64 x7_4),(Sl3.v x7_5),(Value.int .i64 x7_6),(Value.int .i64 x7_7),(Value.string x7_8),(Sl3.v x7_9),(Sl3.v x7_10),(Sl3.v x7_11)])]) (RS.dn (WS.nxt (WS.rt ?_)))))))))
    cases h
    exact fun a w hs=>rtR (rS hs)
 ·refine RS.fx 10 true (zk hp) ?_
  cases h
def zan:((Option Addr)×AH)→Value
 | (r0,_)=>(Value.pointer r0)
def zbb (_:AH):((Option Addr)×AH)→AH:=fun r=>r.2
noncomputable def B56:Code:=(Tryz.f56.body).getD .skip
noncomputable def zb9 (_L:LC) (a0_0 _a0_1 _a0_2:Sl3) (_p3:Addr):(AH×Int)→Option (Lp (AH×Int) ((Option Addr)×AH)):=fun (H5,v17_6) =>
 if v17_6<(a0_0.n:Int) then
  none
 else
  some (.brk (H5,v17_6))
def zjd (_L:LC) (a0_0 a0_1 a0_2:Sl3) (p3:Addr):(AH×Int)→KN×Lcs:=fun (_,v17_6)=>([kI 17 v17_6,kL 1 0 0,kP 3 p3,kS 15 a0_0,kI 16 (a0_0.n:Int)],[some (32,[(Sl3.v a0_0),(Sl3.v a0_1),(Sl3.v a0_2)])])
noncomputable def zbt (_L:LC) (m:Nat) (_a0_0 a0_1 _a0_2:Sl3) (p3:Addr):(AH×Int)→Option (Lp (AH×Int) ((Option Addr)×AH)):=fun (H9,v31_10) =>
 if v31_10<(a0_1.n:Int) then
  Option.bind (idxA 2 a0_1 v31_10) fun p11 =>
  Option.bind (rd deS H9 (Addr.add p11 0)) fun x12_0 =>
  Option.bind (rd deSl H9 (Addr.add p11 1)) fun _ =>
  Option.bind (rd deM H9 (Addr.add p3 3)) fun x13 =>
  Option.bind (lkM Tryz.prog 173 (deI .i64) H9 x13 (Value.agg #[(Value.int .i64 6),(Value.string x12_0)])) fun (_,b15) =>
  if b15=true then
   none
  else
   Option.bind (rd deM H9 (Addr.add p3 3)) fun x16 =>
   Option.bind (upM Tryz.prog m 173 H9 x16 (Value.agg #[(Value.int .i64 6),(Value.string x12_0)]) (Value.int .i64 v31_10)) fun H17 =>
   some (.next (H17,(IntKind.i64.wrap (v31_10+1))))
 else
  some (.brk (H9,v31_10))
def zj0 (_L:LC) (_m:Nat) (a0_0 a0_1 a0_2:Sl3) (p3:Addr):(AH×Int)→KN×Lcs:=fun (_,v31_10)=>([kI 31 v31_10,kP 3 p3,kS 29 a0_1,kI 30 (a0_1.n:Int)],[some (32,[(Sl3.v a0_0),(Sl3.v a0_1),(Sl3.v a0_2)])])
noncomputable def z9k (L:LC) (m:Nat) (H:AH) (a0_0 a0_1 a0_2:Sl3):Option ((Option Addr)×AH) :=
 Option.bind (newM H) fun (p1,H2) =>
 Option.bind (newB 175 [(Sl3.v a0_0),(Sl3.v a0_1),(Sl3.v a0_2),(Value.map (some p1))] H2) fun (p3,H4) =>
 Option.bind (L.run (zb9 L a0_0 a0_1 a0_2 p3) (H4,0)) fun o=>match o with
 | .inl (H7,_) =>
  Option.bind (L.run (zbt L m a0_0 a0_1 a0_2 p3) (H7,0)) fun o=>match o with
  | .inl (H18,_) =>
   some ((some p3),H18)
  | .inr r=>some r
 | .inr r=>some r
theorem zcn {E m H L a0_0 a0_1 a0_2 p3} :LoopF Tryz.prog (NE.plain 114) m E Tryz.f56 ((cfst (csnd (cfst (csnd (csnd B56)))))) (zjd L a0_0 a0_1 a0_2 p3) (fun s=>s.1) 0 zan (zbb H) (zb9 L a0_0 a0_1 a0_2 p3):=by
 rintro ⟨H5,v17_6⟩ o h
 unfold zb9 at h
 try dsimp only at h
 refine WS.sq (WS.rg (RS.mS 1 [kB 18 (decide (v17_6<(a0_0.n:Int)))] (RS.dn (WS.nxt (WS.sq ?_)))))
 rcases z0 h with ⟨hp,h⟩ | ⟨hp,h⟩
 ·refine WS.fx 18 true (decide_eq_true hp) (WS.cT ?_)
  cases h
 ·refine WS.fx 18 false (decide_eq_false hp) (WS.cF (WS.ex 0 ?_))
  cases h
  exact fun a w hs=>sqE (lsB rfl (hs.sb 1))
theorem zco {E H L m a0_0 a0_1 a0_2 p3} :LoopF Tryz.prog (NE.plain 114) m E Tryz.f56 ((cfst (csnd (cfst (csnd (csnd (csnd B56))))))) (zj0 L m a0_0 a0_1 a0_2 p3) (fun s=>s.1) 2 zan (zbb H) (zbt L m a0_0 a0_1 a0_2 p3):=by
 rintro ⟨H9,v31_10⟩ o h
 unfold zbt at h
 try dsimp only at h
 refine WS.sq (WS.rg (RS.mS 1 [kB 32 (decide (v31_10<(a0_1.n:Int)))] (RS.dn (WS.nxt (WS.sq ?_)))))
 rcases z0 h with ⟨hp,h⟩ | ⟨hp,h⟩
 ·refine WS.fx 32 true (decide_eq_true hp) (WS.cT (WS.sk (WS.nxt (WS.sq (WS.bk 3 (WS.sq (WS.rg (RS.mS 1 [kI 33 v31_10] ?_))))))))
  obtain ⟨p11,hx,h⟩:=bind_some h
  refine RS.ix 34 29 91 (.tmp 29) (.tmp 31) hx ?_
  obtain ⟨x12_0,hx0,h⟩:=bind_some h
  obtain ⟨x12_1,hx1,h⟩:=bind_some h
  refine RS.la 35 91 (.tmp 34) 2 (z2 (z1 hx0 z9) (z2 (z1 hx1 z3) za)) (RS.mL 3 [kI 6 v31_10,kL 7 1 0] ([some (32,[(Sl3.v a0_0),(Sl3.v a0_1),(Sl3.v a0_2)]),some (91,[(Value.string x12_0),(Sl3.v x12_1)])]) (RS.dn (WS.nxt (WS.sq ?_))))
  refine WS.dr [0,1,2,3,4,5,6,7] [0,1,3,7,0,16,48,127,255,511,511,1023,4095] 13 (fun hcl=>?_)
  refine DA.tK 0 (some 37) (Value.pointer (some p3)) (DA.tK 1 (some 38) (Value.pointer (some p3)) (DA.tK 2 (some 39) (Value.pointer (some (Addr.add p3 3))) ?_))
  obtain ⟨x13,hx,h⟩:=bind_some h
  refine DA.tD 3 (some 40) (Value.map x13) (Abs.det_load (t:=173) (x:=.tmp 39) (a:=(Addr.add p3 3)) (by kernel_rfl) (by kernel_rfl) (by kernel_rfl) (by kernel_rfl) (z1 hx z15)) (DA.tL 4 (some 41) (.loc 1 0) (DA.tL 5 (some 42) (.val (Value.string x12_0)) (DA.tK 6 (some 43) (Value.agg #[(Value.int .i64 6),(Value.string x12_0)]) ?_)))
  obtain ⟨⟨x14,b15⟩,hx,h⟩:=bind_some h
  try dsimp only at h
  refine DA.tD 7 (some 44) (Value.tuple #[(Value.int .i64 x14),(Value.bool b15)]) (Abs.det_look (t:=173) (x:=.tmp 40) (y:=.tmp 43) (mm:=x13) (k:=(Value.agg #[(Value.int .i64 6),(Value.string x12_0)])) (by kernel_rfl) (by kernel_rfl) (by kernel_rfl) (by kernel_rfl) (lkM_eq hx z8)) (DA.tP 8 (some 36) (Value.tuple #[(Value.int .i64 x14),(Value.bool b15)]) (DA.tP 9 (some 45) (Value.int .i64 x14) (DA.tP 10 (some 46) (Value.bool b15) (DA.tP 11 (some 8) (Value.int .i64 x14) (DA.tP 12 (some 9) (Value.bool b15) (DA.dn (WS.nxt (WS.sq (WS.rg ?_)))))))))
  refine RS.mS 2 [kB 48 (!b15),kB 47 b15] (RS.dn (WS.nxt ?_))
  rcases z0 h with ⟨hp,h⟩ | ⟨hp,h⟩
  ·refine WS.fx 48 false (nb_not hp) (WS.cF ?_)
   cases h
  ·refine WS.fx 48 true (zk hp) (WS.cT ?_)
   refine WS.dr [0,1,2,3,4,5] [0,1,3,7,0,16,48,0,255] 9 (fun hcl=>?_)
   refine DA.tK 0 (some 49) (Value.pointer (some p3)) (DA.tK 1 (some 50) (Value.pointer (some p3)) (DA.tK 2 (some 51) (Value.pointer (some (Addr.add p3 3))) ?_))
   obtain ⟨x16,hx,h⟩:=bind_some h
   refine DA.tD 3 (some 52) (Value.map x16) (Abs.det_load (t:=173) (x:=.tmp 51) (a:=(Addr.add p3 3)) (by kernel_rfl) (by kernel_rfl) (by kernel_rfl) (by kernel_rfl) (z1 hx z15)) (DA.tL 4 (some 53) (.loc 1 0) (DA.tL 5 (some 54) (.val (Value.string x12_0)) (DA.tP 7 (some 56) (Value.int .i64 v31_10) (DA.on 6 (DA.aHj (H':=H9) 6 (some 55) false (Value.agg #[(Value.int .i64 6),(Value.string x12_0)]) (by kernel_rfl) ?_)))))
   obtain ⟨H17,hx,h⟩:=bind_some h
   refine DA.on 8 (DA.aH (H':=H17) 8 none undef (Abs.run_upM (t:=173) (x:=.tmp 52) (y:=.tmp 55) (z:=.tmp 56) (mm:=x16) (k:=(Value.agg #[(Value.int .i64 6),(Value.string x12_0)])) (v:=(Value.int .i64 v31_10)) (by kernel_rfl) (by kernel_rfl) (by kernel_rfl) (by kernel_rfl) (by kernel_rfl) hx) (DA.dn ?_))
   refine fun a w hs=>bkN ((WS.nxt ?_ a w hs))
   refine WS.rg (RS.mS 2 [kI 31 (IntKind.i64.wrap (v31_10+1)),kI 57 (IntKind.i64.wrap (v31_10+1))] (RS.dn ?_))
   cases h
   exact fun a w hs=>lsN rfl (hs.sb 1)
 ·refine WS.fx 32 false (decide_eq_false hp) (WS.cF (WS.ex 2 ?_))
  cases h
  exact fun a w hs=>sqE (lsB rfl (hs.sb 1))
theorem zbc {L:LC} {m:Nat} {H:AH} {a0_0 a0_1 a0_2:Sl3} {r:((Option Addr)×AH)} (h:z9k L m H a0_0 a0_1 a0_2=some r) :
  CallS Tryz.prog (NE.plain 114) m 56 #[(Value.agg #[(Sl3.v a0_0),(Sl3.v a0_1),(Sl3.v a0_2)])] H (zan r) (zbb H r):=by
 refine CallS.mk (args:=[(Value.agg #[(Sl3.v a0_0),(Sl3.v a0_1),(Sl3.v a0_2)])]) Tryz.func56 (B:=B56) (by kernel_rfl) (fun E _=>?_)
 unfold z9k at h
 refine WS.sq (WS.rg (RS.mL 2 [(2,.val (Value.pointer none)),kL 1 0 0] ([some (32,[(Sl3.v a0_0),(Sl3.v a0_1),(Sl3.v a0_2)])]) (RS.dn (WS.nxt (WS.sq (WS.rg (RS.mS 1 [kA 10 #[(Sl3.v a0_0),(Sl3.v a0_1),(Sl3.v a0_2)]] ?_)))))))
 obtain ⟨⟨p1,H2⟩,hx,h⟩:=bind_some h
 try dsimp only at h
 refine RS.o (H':=H2) (some 11) (Value.map (some p1)) (Abs.run_newM (by kernel_rfl) hx) (RS.mS 1 [kA 12 #[(Sl3.v a0_0),(Sl3.v a0_1),(Sl3.v a0_2),(Value.map (some p1))]] ?_)
 obtain ⟨⟨p3,H4⟩,hx,h⟩:=bind_some h
 try dsimp only at h
 refine RS.o (H':=H4) (some 13) (Value.pointer (some p3)) (Abs.run_newB (by kernel_rfl) hx) (RS.mS 1 [kP 3 p3] (RS.dn (WS.nxt (WS.sq (WS.sq (WS.rg (RS.mS 4 [kI 17 0,kI 16 (a0_0.n:Int),kS 15 a0_0,kL 14 0 0] (RS.dn (WS.nxt ?_)))))))))
 refine WS.bk 0 ?_
 obtain ⟨o,hl,h⟩:=bind_some h
 rcases o with ⟨H7,v17_8⟩ | r
 ·try dsimp only at h
  refine WS.lI (zcn (L:=L) (E:=E) (m:=m) (H:=H)) (L.ok hl) 1 ?_
  clear hl
  refine fun a w hs=>bkE ((WS.nxt ?_ a w hs))
  refine WS.sq (WS.sq (WS.rg (RS.mS 4 [kI 31 0,kI 30 (a0_1.n:Int),kS 29 a0_1,kL 28 0 1] (RS.dn (WS.nxt (WS.bk 2 ?_))))))
  obtain ⟨o,hl,h⟩:=bind_some h
  rcases o with ⟨H18,v31_19⟩ | r
  ·try dsimp only at h
   refine WS.lI (zco (L:=L) (E:=E) (m:=m) (H:=H)) (L.ok hl) 1 ?_
   clear hl
   refine fun a w hs=>bkE ((WS.nxt ?_ a w hs))
   refine WS.sq (WS.rg (RS.mS 2 [kP 2 p3,kP 58 p3] (RS.dn (WS.nxt (WS.rt ?_)))))
   cases h
   exact fun a w hs=>rtR (rS hs)
  ·try dsimp only at h
   refine WS.lR (zco (L:=L) (E:=E) (m:=m) (H:=H)) (L.ok hl) 1 ?_
   cases h
   exact fun a w hq=>bkR (sqR (rtR hq))
 ·try dsimp only at h
  refine WS.lR (zcn (L:=L) (E:=E) (m:=m) (H:=H)) (L.ok hl) 1 ?_
  cases h
  exact fun a w hq=>bkR (sqR (rtR hq))
def z45:Bool→Value
 | r0=>(Value.bool r0)
def z4v (H:AH):Bool→AH:=fun _=>H
noncomputable def B104:Code:=(Tryz.f104.body).getD .skip
noncomputable def z3t (_L:LC) (H:AH) (a0:Option Addr) (a1_0 _a1_1:Int) (a1_2:ByteArray) (_a1_3:Sl3):Option Bool :=
 if a1_0=5 then
  none
 else
  if a1_0=6 then
   Option.bind a0 fun q1 =>
   Option.bind (rd deM H (Addr.add q1 3)) fun x2 =>
   Option.bind (lkM Tryz.prog 173 (deI .i64) H x2 (Value.agg #[(Value.int .i64 a1_0),(Value.string a1_2)])) fun (_,b4) =>
   some b4
  else
   none
noncomputable def z8h (L:LC) (n:Nat):(AH→(Option Addr)→Int→Int→ByteArray→Sl3→Option Bool):=Nat.rec (motive:=fun _=>(AH→(Option Addr)→Int→Int→ByteArray→Sl3→Option Bool)) (fun _ _ _ _ _ _=>none) (fun _ _=>z3t L) n
noncomputable def zcx (L:LC) (H:AH) (a0:Option Addr) (a1_0 a1_1:Int) (a1_2:ByteArray) (a1_3:Sl3):Option Bool:=(z8h L L.fuel) H a0 a1_0 a1_1 a1_2 a1_3
theorem zcf {L:LC} {m:Nat} {H:AH} {a0:Option Addr} {a1_0 a1_1:Int} {a1_2:ByteArray} {a1_3:Sl3} {r:Bool} (h:z3t L H a0 a1_0 a1_1 a1_2 a1_3=some r) :
  CallS Tryz.prog (NE.plain 114) m 104 #[(Value.pointer a0),(Value.agg #[(Value.int .i64 a1_0),(Value.int .i64 a1_1),(Value.string a1_2),(Sl3.v a1_3)])] H (z45 r) (z4v H r):=by
 refine CallS.mk (args:=[(Value.pointer a0),(Value.agg #[(Value.int .i64 a1_0),(Value.int .i64 a1_1),(Value.string a1_2),(Sl3.v a1_3)])]) Tryz.func104 (B:=B104) (by kernel_rfl) (fun E _=>?_)
 unfold z3t at h
 refine WS.sq (WS.rg (RS.mL 2 [kB 4 false,kL 3 0 0] ([some (59,[(Value.int .i64 a1_0),(Value.int .i64 a1_1),(Value.string a1_2),(Sl3.v a1_3)])]) (RS.dn (WS.nxt (WS.sq (WS.sq (WS.rg (RS.mS 4 [kB 12 (decide (a1_0=5)),kB 11 (decide (a1_0=5)),kI 10 a1_0,kL 9 0 0] ?_))))))))
 rcases z0 h with ⟨hp,h⟩ | ⟨hp,h⟩
 ·refine RS.fx 12 true (decide_eq_true hp) ?_
  cases h
 ·refine RS.fx 12 false (decide_eq_false hp) (RS.mS 4 [kB 16 (decide (a1_0=6)),kB 15 (decide (a1_0=6)),kI 14 a1_0,kL 13 0 0] (RS.dn (WS.nxt ?_)))
  rcases z0 h with ⟨hp,h⟩ | ⟨hp,h⟩
  ·refine WS.fx 16 true (decide_eq_true hp) (WS.cT (WS.sq ?_))
   refine WS.dr [0,1,2,3,4,5,6,7,8,9] [0,1,3,7,0,16,0,64,240,511,1023,2047,2047,4095,16383] 15 (fun hcl=>?_)
   refine DA.tK 0 (some 18) (Value.pointer a0) ?_
   obtain ⟨q1,hx,hq1⟩:=bind_some h
   subst hx
   have h:=hq1
   refine DA.tK 1 (some 19) (Value.pointer (some q1)) (DA.tK 2 (some 20) (Value.pointer (some (Addr.add q1 3))) ?_)
   obtain ⟨x2,hx,h⟩:=bind_some h
   refine DA.tD 3 (some 21) (Value.map x2) (Abs.det_load (t:=173) (x:=.tmp 20) (a:=(Addr.add q1 3)) (by kernel_rfl) (by kernel_rfl) (by kernel_rfl) (by kernel_rfl) (z1 hx z15)) (DA.tL 4 (some 22) (.loc 0 0) (DA.tL 5 (some 23) (.val (Value.int .i64 a1_0)) (DA.tL 6 (some 24) (.loc 0 2) (DA.tL 7 (some 25) (.val (Value.string a1_2)) (DA.tK 8 (some 26) (Value.agg #[(Value.int .i64 a1_0),(Value.string a1_2)]) ?_)))))
   obtain ⟨⟨x3,b4⟩,hx,h⟩:=bind_some h
   try dsimp only at h
   refine DA.tD 9 (some 27) (Value.tuple #[(Value.int .i64 x3),(Value.bool b4)]) (Abs.det_look (t:=173) (x:=.tmp 21) (y:=.tmp 26) (mm:=x2) (k:=(Value.agg #[(Value.int .i64 a1_0),(Value.string a1_2)])) (by kernel_rfl) (by kernel_rfl) (by kernel_rfl) (by kernel_rfl) (lkM_eq hx z8)) (DA.tP 10 (some 17) (Value.tuple #[(Value.int .i64 x3),(Value.bool b4)]) (DA.tP 11 (some 28) (Value.int .i64 x3) (DA.tP 12 (some 29) (Value.bool b4) (DA.tP 13 (some 5) (Value.int .i64 x3) (DA.tP 14 (some 6) (Value.bool b4) (DA.dn (WS.nxt (WS.sq (WS.rg ?_)))))))))
   refine RS.mS 2 [kB 4 b4,kB 30 b4] (RS.dn (WS.nxt (WS.rt ?_)))
   cases h
   exact fun a w hs=>sqR (rtR (rS hs))
  ·refine WS.fx 16 false (decide_eq_false hp) (WS.cF ?_)
   cases h
theorem zd4 {L:LC}:∀n,(∀(m:Nat) (H:AH) (a0:Option Addr) (a1_0 a1_1:Int) (a1_2:ByteArray) (a1_3:Sl3) (r:Bool),((z8h L n)) H a0 a1_0 a1_1 a1_2 a1_3=some r→CallS Tryz.prog (NE.plain 114) m 104 #[(Value.pointer a0),(Value.agg #[(Value.int .i64 a1_0),(Value.int .i64 a1_1),(Value.string a1_2),(Sl3.v a1_3)])] H (z45 r) (z4v H r)):=by
 intro n
 induction n with
 | zero=>exact (fun _ _ _ _ _ _ _ _ h=>(Option.some_ne_none _ h.symm).elim)
 | succ n ih=>exact (fun _ _ _ _ _ _ _ _ h=>zcf (L:=L)  h)
theorem zgb {L:LC} {m:Nat} {H:AH} {a0:Option Addr} {a1_0 a1_1:Int} {a1_2:ByteArray} {a1_3:Sl3} {r:Bool} (h:zcx L H a0 a1_0 a1_1 a1_2 a1_3=some r) :
  CallS Tryz.prog (NE.plain 114) m 104 #[(Value.pointer a0),(Value.agg #[(Value.int .i64 a1_0),(Value.int .i64 a1_1),(Value.string a1_2),(Sl3.v a1_3)])] H (z45 r) (z4v H r) :=
 (zd4 _) _ _ _ _ _ _ _ _ h
end Go.Proofs.YthhbfmgipdbilaaGreatDoor
namespace Go.Proofs.YthhbfmgipdbilaaGreatDoor
open Go Go.Abs
set_option maxRecDepth 100000
def z5h:(Int×Bool)→Value
 | (r0,r1)=>(Value.tuple #[(Value.int .i64 r0),(Value.bool r1)])
def z6m (H:AH):(Int×Bool)→AH:=fun _=>H
noncomputable def B119:Code:=(Tryz.f119.body).getD .skip
noncomputable def zad (_L:LC) (_H:AH) (_a0_0 _a0_1:Int) (_a0_2:ByteArray) (a0_3:Sl3) (_a1:Int):(Int×Int)→Option (Lp (Int×Int) (Int×Bool)):=fun (v6_1,v16_2) =>
 if v16_2<(a0_3.n:Int) then
  none
 else
  some (.brk (v6_1,v16_2))
def ziq (_L:LC) (_H:AH) (a0_0 a0_1:Int) (a0_2:ByteArray) (a0_3:Sl3) (a1:Int):(Int×Int)→KN×Lcs:=fun (v6_1,v16_2)=>([kI 6 v6_1,kI 16 v16_2,kI 1 a1,kS 14 a0_3,kI 15 (a0_3.n:Int)],[some (59,[(Value.int .i64 a0_0),(Value.int .i64 a0_1),(Value.string a0_2),(Sl3.v a0_3)])])
noncomputable def z7y (L:LC) (H:AH) (a0_0 a0_1:Int) (a0_2:ByteArray) (a0_3:Sl3) (a1:Int):Option (Int×Bool) :=
 if a1 > 16 then
  none
 else
  Option.bind (L.run (zad L H a0_0 a0_1 a0_2 a0_3 a1) (1,0)) fun o=>match o with
  | .inl (v6_3,_) =>
   some (v6_3,true)
  | .inr r=>some r
noncomputable def ze9 (L:LC) (n:Nat):(AH→Int→Int→ByteArray→Sl3→Int→Option (Int×Bool)):=Nat.rec (motive:=fun _=>(AH→Int→Int→ByteArray→Sl3→Int→Option (Int×Bool))) (fun _ _ _ _ _ _=>none) (fun _ _=>z7y L) n
noncomputable def zjg (L:LC) (H:AH) (a0_0 a0_1:Int) (a0_2:ByteArray) (a0_3:Sl3) (a1:Int):Option (Int×Bool):=(ze9 L L.fuel) H a0_0 a0_1 a0_2 a0_3 a1
theorem zc0 {E m L H a0_0 a0_1 a0_2 a0_3 a1} :LoopF Tryz.prog (NE.plain 114) m E Tryz.f119 ((cfst (csnd (cfst (csnd (csnd (csnd B119))))))) (ziq L H a0_0 a0_1 a0_2 a0_3 a1) (fun _=>H) 0 z5h (z6m H) (zad L H a0_0 a0_1 a0_2 a0_3 a1):=by
 rintro ⟨v6_1,v16_2⟩ o h
 unfold zad at h
 try dsimp only at h
 refine WS.sq (WS.rg (RS.mS 1 [kB 17 (decide (v16_2<(a0_3.n:Int)))] (RS.dn (WS.nxt (WS.sq ?_)))))
 rcases z0 h with ⟨hp,h⟩ | ⟨hp,h⟩
 ·refine WS.fx 17 true (decide_eq_true hp) (WS.cT ?_)
  cases h
 ·refine WS.fx 17 false (decide_eq_false hp) (WS.cF (WS.ex 0 ?_))
  cases h
  exact fun a w hs=>sqE (lsB rfl (hs.sb 1))
theorem zh4 {L:LC} {m:Nat} {H:AH} {a0_0 a0_1:Int} {a0_2:ByteArray} {a0_3:Sl3} {a1:Int} {r:(Int×Bool)} (h:z7y L H a0_0 a0_1 a0_2 a0_3 a1=some r) :
  CallS Tryz.prog (NE.plain 114) m 119 #[(Value.agg #[(Value.int .i64 a0_0),(Value.int .i64 a0_1),(Value.string a0_2),(Sl3.v a0_3)]),(Value.int .i64 a1)] H (z5h r) (z6m H r):=by
 refine CallS.mk (args:=[(Value.agg #[(Value.int .i64 a0_0),(Value.int .i64 a0_1),(Value.string a0_2),(Sl3.v a0_3)]),(Value.int .i64 a1)]) Tryz.func119 (B:=B119) (by kernel_rfl) (fun E _=>?_)
 unfold z7y at h
 refine WS.sq (WS.rg (RS.mL 3 [kB 5 false,kI 4 0,kL 2 0 0] ([some (59,[(Value.int .i64 a0_0),(Value.int .i64 a0_1),(Value.string a0_2),(Sl3.v a0_3)])]) (RS.dn (WS.nxt (WS.sq (WS.sq (WS.rg (RS.mS 2 [kB 12 (decide (a1 > 16)),kI 11 a1] (RS.dn ?_)))))))))
 refine WS.nxt ?_
 rcases z0 h with ⟨hp,h⟩ | ⟨hp,h⟩
 ·refine WS.fx 12 true (decide_eq_true hp) (WS.cT ?_)
  cases h
 ·refine WS.fx 12 false (decide_eq_false hp) (WS.cF (WS.sk (WS.nxt (WS.sq (WS.rg (RS.mS 1 [kI 6 1] (RS.dn (WS.nxt (WS.sq ?_)))))))))
  refine WS.sq (WS.rg (RS.mS 4 [kI 16 0,kI 15 (a0_3.n:Int),kS 14 a0_3,kL 13 0 3] (RS.dn (WS.nxt (WS.bk 0 ?_)))))
  obtain ⟨o,hl,h⟩:=bind_some h
  rcases o with ⟨v6_3,v16_4⟩ | r
  ·try dsimp only at h
   refine WS.lI (zc0 (L:=L) (E:=E) (m:=m) (H:=H)) (L.ok hl) 1 ?_
   clear hl
   refine fun a w hs=>bkE ((WS.nxt ?_ a w hs))
   refine WS.sq (WS.rg (RS.mS 3 [kB 5 true,kI 4 v6_3,kI 38 v6_3] (RS.dn (WS.nxt (WS.rt ?_)))))
   cases h
   exact fun a w hs=>rtR (rS hs)
  ·try dsimp only at h
   refine WS.lR (zc0 (L:=L) (E:=E) (m:=m) (H:=H)) (L.ok hl) 1 ?_
   cases h
   exact fun a w hq=>bkR (sqR (rtR hq))
theorem zhi {L:LC}:∀n,(∀(m:Nat) (H:AH) (a0_0 a0_1:Int) (a0_2:ByteArray) (a0_3:Sl3) (a1:Int) (r:(Int×Bool)),((ze9 L n)) H a0_0 a0_1 a0_2 a0_3 a1=some r→CallS Tryz.prog (NE.plain 114) m 119 #[(Value.agg #[(Value.int .i64 a0_0),(Value.int .i64 a0_1),(Value.string a0_2),(Sl3.v a0_3)]),(Value.int .i64 a1)] H (z5h r) (z6m H r)):=by
 intro n
 induction n with
 | zero=>exact (fun _ _ _ _ _ _ _ _ h=>(Option.some_ne_none _ h.symm).elim)
 | succ n ih=>exact (fun _ _ _ _ _ _ _ _ h=>zh4 (L:=L)  h)
theorem zl8 {L:LC} {m:Nat} {H:AH} {a0_0 a0_1:Int} {a0_2:ByteArray} {a0_3:Sl3} {a1:Int} {r:(Int×Bool)} (h:zjg L H a0_0 a0_1 a0_2 a0_3 a1=some r) :
  CallS Tryz.prog (NE.plain 114) m 119 #[(Value.agg #[(Value.int .i64 a0_0),(Value.int .i64 a0_1),(Value.string a0_2),(Sl3.v a0_3)]),(Value.int .i64 a1)] H (z5h r) (z6m H r) :=
 (zhi _) _ _ _ _ _ _ _ _ h
def zfm:Bool→Value
 | r0=>(Value.bool r0)
def zgk (H:AH):Bool→AH:=fun _=>H
noncomputable def B54:Code:=(Tryz.f54.body).getD .skip
noncomputable def zc5 (_L:LC) (a0:ByteArray):Int→Option (Lp Int Bool):=fun v24_3 =>
 if v24_3<(a0.size:Int) then
  Option.bind (bytA a0 v24_3) fun x4 =>
  if x4<32 then
   none
  else
   Option.bind (bytA a0 v24_3) fun x5 =>
   if x5 > 126 then
    none
   else
    Option.bind (bytA a0 v24_3) fun x6 =>
    if x6=124 then
     none
    else
     Option.bind (bytA a0 v24_3) fun x7 =>
     if x7=92 then
      none
     else
      some (.next (IntKind.i64.wrap (v24_3+1)))
 else
  some (.brk v24_3)
def zjk (_L:LC) (a0:ByteArray):Int→KN×Lcs:=fun v24_3=>([kI 24 v24_3,kT 0 a0,kI 23 (a0.size:Int)],[])
noncomputable def zcs (L:LC) (a0:ByteArray):Option Bool :=
 if (a0.size:Int)<1 then
  none
 else
  if (a0.size:Int) > 200 then
   none
  else
   Option.bind (bytA a0 0) fun x1 =>
   if x1=64 then
    none
   else
    Option.bind (bytA a0 0) fun x2 =>
    if x2=46 then
     none
    else
     Option.bind (L.run (zc5 L a0) 0) fun o=>match o with
     | .inl _ =>
      some true
     | .inr r=>some r
theorem zd1 {E m H L a0} :LoopF Tryz.prog (NE.plain 114) m E Tryz.f54 ((cfst (csnd (cfst (csnd (csnd B54)))))) (zjk L a0) (fun _=>H) 0 zfm (zgk H) (zc5 L a0):=by
 rintro v24_3 o h
 unfold zc5 at h
 try dsimp only at h
 refine WS.sq (WS.rg (RS.mS 1 [kB 25 (decide (v24_3<(a0.size:Int)))] (RS.dn (WS.nxt (WS.sq ?_)))))
 rcases z0 h with ⟨hp,h⟩ | ⟨hp,h⟩
 ·refine WS.fx 25 true (decide_eq_true hp) (WS.cT (WS.sk (WS.nxt (WS.sq (WS.bk 1 (WS.sq (WS.rg (RS.mS 2 [kI 3 v24_3,kI 26 v24_3] (RS.dn ?_)))))))))
  refine WS.nxt (WS.sq (WS.rg (RS.mS 2 [kI 28 v24_3,kT 27 a0] ?_)))
  obtain ⟨x4,hx,h⟩:=bind_some h
  refine RS.o (H':=H) (some 29) (Value.int .u8 x4) (Abs.run_byt (t:=9) (x:=.tmp 27) (y:=.tmp 28) (s:=a0) (k:=.i64) (i:=v24_3) (by kernel_rfl) (by kernel_rfl) (by kernel_rfl) (by kernel_rfl) hx) (RS.mS 2 [kB 31 (decide (x4<32)),kB 30 (decide (x4<32))] ?_)
  rcases z0 h with ⟨hp,h⟩ | ⟨hp,h⟩
  ·refine RS.fx 31 true (decide_eq_true hp) ?_
   cases h
  ·refine RS.fx 31 false (decide_eq_false hp) (RS.mS 2 [kI 33 v24_3,kT 32 a0] ?_)
   obtain ⟨x5,hx,h⟩:=bind_some h
   refine RS.o (H':=H) (some 34) (Value.int .u8 x5) (Abs.run_byt (t:=9) (x:=.tmp 32) (y:=.tmp 33) (s:=a0) (k:=.i64) (i:=v24_3) (by kernel_rfl) (by kernel_rfl) (by kernel_rfl) (by kernel_rfl) hx) (RS.mS 3 [kB 37 (decide (x5 > 126)),kB 36 (decide (x5 > 126)),kB 35 (decide (x5 > 126))] ?_)
   rcases z0 h with ⟨hp,h⟩ | ⟨hp,h⟩
   ·refine RS.fx 37 true (decide_eq_true hp) ?_
    cases h
   ·refine RS.fx 37 false (decide_eq_false hp) (RS.mS 2 [kI 39 v24_3,kT 38 a0] ?_)
    obtain ⟨x6,hx,h⟩:=bind_some h
    refine RS.o (H':=H) (some 40) (Value.int .u8 x6) (Abs.run_byt (t:=9) (x:=.tmp 38) (y:=.tmp 39) (s:=a0) (k:=.i64) (i:=v24_3) (by kernel_rfl) (by kernel_rfl) (by kernel_rfl) (by kernel_rfl) hx) (RS.mS 3 [kB 43 (decide (x6=124)),kB 42 (decide (x6=124)),kB 41 (decide (x6=124))] ?_)
    rcases z0 h with ⟨hp,h⟩ | ⟨hp,h⟩
    ·refine RS.fx 43 true (decide_eq_true hp) ?_
     cases h
    ·refine RS.fx 43 false (decide_eq_false hp) (RS.mS 2 [kI 45 v24_3,kT 44 a0] ?_)
     obtain ⟨x7,hx,h⟩:=bind_some h
     refine RS.o (H':=H) (some 46) (Value.int .u8 x7) (Abs.run_byt (t:=9) (x:=.tmp 44) (y:=.tmp 45) (s:=a0) (k:=.i64) (i:=v24_3) (by kernel_rfl) (by kernel_rfl) (by kernel_rfl) (by kernel_rfl) hx) (RS.mS 2 [kB 48 (decide (x7=92)),kB 47 (decide (x7=92))] (RS.dn (WS.nxt ?_)))
     rcases z0 h with ⟨hp,h⟩ | ⟨hp,h⟩
     ·refine WS.fx 48 true (decide_eq_true hp) (WS.cT ?_)
      cases h
     ·refine WS.fx 48 false (decide_eq_false hp) (WS.cF (WS.sk ?_))
      refine fun a w hs=>bkN ((WS.nxt ?_ a w hs))
      refine WS.rg (RS.mS 2 [kI 24 (IntKind.i64.wrap (v24_3+1)),kI 49 (IntKind.i64.wrap (v24_3+1))] (RS.dn ?_))
      cases h
      exact fun a w hs=>lsN rfl (hs.sb 0)
 ·refine WS.fx 25 false (decide_eq_false hp) (WS.cF (WS.ex 0 ?_))
  cases h
  exact fun a w hs=>sqE (lsB rfl (hs.sb 0))
theorem zgy {L:LC} {m:Nat} {H:AH} {a0:ByteArray} {r:Bool} (h:zcs L a0=some r) :
  CallS Tryz.prog (NE.plain 114) m 54 #[(Value.string a0)] H (zfm r) (zgk H r):=by
 refine CallS.mk (args:=[(Value.string a0)]) Tryz.func54 (B:=B54) (by kernel_rfl) (fun E _=>?_)
 unfold zcs at h
 refine WS.sq (WS.rg (RS.mS 1 [kB 2 false] (RS.dn (WS.nxt (WS.sq (WS.sq (WS.rg (RS.mS 4 [kB 7 (decide ((a0.size:Int)<1)),kB 6 (decide ((a0.size:Int)<1)),kI 5 (a0.size:Int),kT 4 a0] ?_))))))))
 rcases z0 h with ⟨hp,h⟩ | ⟨hp,h⟩
 ·refine RS.fx 7 true (decide_eq_true hp) ?_
  cases h
 ·refine RS.fx 7 false (decide_eq_false hp) (RS.mS 5 [kB 12 (decide ((a0.size:Int) > 200)),kB 11 (decide ((a0.size:Int) > 200)),kB 10 (decide ((a0.size:Int) > 200)),kI 9 (a0.size:Int),kT 8 a0] ?_)
  rcases z0 h with ⟨hp,h⟩ | ⟨hp,h⟩
  ·refine RS.fx 12 true (decide_eq_true hp) ?_
   cases h
  ·refine RS.fx 12 false (decide_eq_false hp) (RS.mS 1 [kT 13 a0] ?_)
   obtain ⟨x1,hx,h⟩:=bind_some h
   refine RS.o (H':=H) (some 14) (Value.int .u8 x1) (Abs.run_byt (t:=9) (x:=.tmp 13) (y:=.const (Value.int .i64 0)) (s:=a0) (k:=.i64) (i:=0) (by kernel_rfl) (by kernel_rfl) (by kernel_rfl) (by kernel_rfl) hx) (RS.mS 3 [kB 17 (decide (x1=64)),kB 16 (decide (x1=64)),kB 15 (decide (x1=64))] ?_)
   rcases z0 h with ⟨hp,h⟩ | ⟨hp,h⟩
   ·refine RS.fx 17 true (decide_eq_true hp) ?_
    cases h
   ·refine RS.fx 17 false (decide_eq_false hp) (RS.mS 1 [kT 18 a0] ?_)
    obtain ⟨x2,hx,h⟩:=bind_some h
    refine RS.o (H':=H) (some 19) (Value.int .u8 x2) (Abs.run_byt (t:=9) (x:=.tmp 18) (y:=.const (Value.int .i64 0)) (s:=a0) (k:=.i64) (i:=0) (by kernel_rfl) (by kernel_rfl) (by kernel_rfl) (by kernel_rfl) hx) (RS.mS 2 [kB 21 (decide (x2=46)),kB 20 (decide (x2=46))] (RS.dn (WS.nxt ?_)))
    rcases z0 h with ⟨hp,h⟩ | ⟨hp,h⟩
    ·refine WS.fx 21 true (decide_eq_true hp) (WS.cT ?_)
     cases h
    ·refine WS.fx 21 false (decide_eq_false hp) (WS.cF (WS.sk (WS.nxt (WS.sq (WS.sq (WS.rg (RS.mS 3 [kI 24 0,kI 23 (a0.size:Int),kT 22 a0] (RS.dn (WS.nxt ?_)))))))))
     refine WS.bk 0 ?_
     obtain ⟨o,hl,h⟩:=bind_some h
     rcases o with v24_8 | r
     ·try dsimp only at h
      refine WS.lI (zd1 (L:=L) (E:=E) (m:=m) (H:=H)) (L.ok hl) 0 ?_
      clear hl
      refine fun a w hs=>bkE ((WS.nxt ?_ a w hs))
      refine WS.sq (WS.rg (RS.mS 1 [kB 2 true] (RS.dn (WS.nxt (WS.rt ?_)))))
      cases h
      exact fun a w hs=>rtR (rS hs)
     ·try dsimp only at h
      refine WS.lR (zd1 (L:=L) (E:=E) (m:=m) (H:=H)) (L.ok hl) 0 ?_
      cases h
      exact fun a w hq=>bkR (sqR (rtR hq))
def z4j:Bool→Value
 | r0=>(Value.bool r0)
def z5p (H:AH):Bool→AH:=fun _=>H
noncomputable def B120:Code:=(Tryz.f120.body).getD .skip
noncomputable def z97 (_L:LC) (_H:AH) (_a0_0 _a0_1:Int) (_a0_2:ByteArray) (a0_3:Sl3):(Bool×Int)→Option (Lp (Bool×Int) Bool):=fun (v3_2,v82_3) =>
 if v82_3<(a0_3.n:Int) then
  none
 else
  some (.brk (v3_2,v82_3))
def zhs (_L:LC) (_H:AH) (a0_0 a0_1:Int) (a0_2:ByteArray) (a0_3:Sl3):(Bool×Int)→KN×Lcs:=fun (v3_2,v82_3)=>([kB 3 v3_2,kI 82 v82_3,kS 80 a0_3,kI 81 (a0_3.n:Int)],[some (59,[(Value.int .i64 a0_0),(Value.int .i64 a0_1),(Value.string a0_2),(Sl3.v a0_3)])])
noncomputable def z6y (L:LC) (H:AH) (a0_0 a0_1:Int) (a0_2:ByteArray) (a0_3:Sl3):Option Bool :=
 if a0_0=1 then
  none
 else
  if a0_0=2 then
   none
  else
   if a0_0=3 then
    none
   else
    if a0_0=4 then
     none
    else
     if a0_0=5 then
      none
     else
      if a0_0=6 then
       if a0_1=0 then
        Option.bind (zcs L a0_2) fun x1 =>
        if x1=true then
         Option.bind (L.run (z97 L H a0_0 a0_1 a0_2 a0_3) ((decide ((a0_3.n:Int)=0)),0)) fun o=>match o with
         | .inl (v3_4,_) =>
          some v3_4
         | .inr r=>some r
        else
         none
       else
        none
      else
       none
noncomputable def zcm (L:LC) (n:Nat):(AH→Int→Int→ByteArray→Sl3→Option Bool):=Nat.rec (motive:=fun _=>(AH→Int→Int→ByteArray→Sl3→Option Bool)) (fun _ _ _ _ _=>none) (fun _ _=>z6y L) n
noncomputable def zhy (L:LC) (H:AH) (a0_0 a0_1:Int) (a0_2:ByteArray) (a0_3:Sl3):Option Bool:=(zcm L L.fuel) H a0_0 a0_1 a0_2 a0_3
theorem zar {E m L H a0_0 a0_1 a0_2 a0_3} :LoopF Tryz.prog (NE.plain 114) m E Tryz.f120 ((cfst (csnd (cfst (csnd (csnd (csnd B120))))))) (zhs L H a0_0 a0_1 a0_2 a0_3) (fun _=>H) 1 z4j (z5p H) (z97 L H a0_0 a0_1 a0_2 a0_3):=by
 rintro ⟨v3_2,v82_3⟩ o h
 unfold z97 at h
 try dsimp only at h
 refine WS.sq (WS.rg (RS.mS 1 [kB 83 (decide (v82_3<(a0_3.n:Int)))] (RS.dn (WS.nxt (WS.sq ?_)))))
 rcases z0 h with ⟨hp,h⟩ | ⟨hp,h⟩
 ·refine WS.fx 83 true (decide_eq_true hp) (WS.cT ?_)
  cases h
 ·refine WS.fx 83 false (decide_eq_false hp) (WS.cF (WS.ex 1 ?_))
  cases h
  exact fun a w hs=>sqE (lsB rfl (hs.sb 1))
theorem zg2 {L:LC} {m:Nat} {H:AH} {a0_0 a0_1:Int} {a0_2:ByteArray} {a0_3:Sl3} {r:Bool} (h:z6y L H a0_0 a0_1 a0_2 a0_3=some r) :
  CallS Tryz.prog (NE.plain 114) m 120 #[(Value.agg #[(Value.int .i64 a0_0),(Value.int .i64 a0_1),(Value.string a0_2),(Sl3.v a0_3)])] H (z4j r) (z5p H r):=by
 refine CallS.mk (args:=[(Value.agg #[(Value.int .i64 a0_0),(Value.int .i64 a0_1),(Value.string a0_2),(Sl3.v a0_3)])]) Tryz.func120 (B:=B120) (by kernel_rfl) (fun E _=>?_)
 unfold z6y at h
 refine WS.sq (WS.rg (RS.mL 2 [kB 2 false,kL 1 0 0] ([some (59,[(Value.int .i64 a0_0),(Value.int .i64 a0_1),(Value.string a0_2),(Sl3.v a0_3)])]) (RS.dn (WS.nxt (WS.sq (WS.rg (RS.mS 1 [kB 3 false] (RS.dn (WS.nxt ?_)))))))))
 refine WS.sq (WS.sq (WS.rg (RS.mS 2 [kI 7 a0_0,kL 6 0 0] (RS.dn (WS.nxt (WS.bk 0 (WS.sq (WS.sq (WS.rg ?_)))))))))
 refine RS.mS 2 [kB 8 (decide (a0_0=1)),kB 9 (decide (a0_0=1))] (RS.dn (WS.nxt ?_))
 rcases z0 h with ⟨hp,h⟩ | ⟨hp,h⟩
 ·refine WS.fx 8 true (decide_eq_true hp) (WS.cT ?_)
  cases h
 ·refine WS.fx 8 false (decide_eq_false hp) (WS.cF (WS.rg (RS.mS 2 [kB 8 (decide (a0_0=2)),kB 10 (decide (a0_0=2))] (RS.dn (WS.nxt ?_)))))
  rcases z0 h with ⟨hp,h⟩ | ⟨hp,h⟩
  ·refine WS.fx 8 true (decide_eq_true hp) (WS.cT ?_)
   cases h
  ·refine WS.fx 8 false (decide_eq_false hp) (WS.cF (WS.sq (WS.rg (RS.mS 2 [kB 25 (decide (a0_0=3)),kB 26 (decide (a0_0=3))] (RS.dn (WS.nxt ?_))))))
   rcases z0 h with ⟨hp,h⟩ | ⟨hp,h⟩
   ·refine WS.fx 25 true (decide_eq_true hp) (WS.cT ?_)
    cases h
   ·refine WS.fx 25 false (decide_eq_false hp) (WS.cF (WS.sq (WS.rg (RS.mS 2 [kB 46 (decide (a0_0=4)),kB 47 (decide (a0_0=4))] (RS.dn (WS.nxt ?_))))))
    rcases z0 h with ⟨hp,h⟩ | ⟨hp,h⟩
    ·refine WS.fx 46 true (decide_eq_true hp) (WS.cT ?_)
     cases h
    ·refine WS.fx 46 false (decide_eq_false hp) (WS.cF (WS.sq (WS.sq (WS.rg (RS.mS 2 [kB 62 (decide (a0_0=5)),kB 63 (decide (a0_0=5))] (RS.dn (WS.nxt ?_)))))))
     rcases z0 h with ⟨hp,h⟩ | ⟨hp,h⟩
     ·refine WS.fx 62 true (decide_eq_true hp) (WS.cT ?_)
      cases h
     ·refine WS.fx 62 false (decide_eq_false hp) (WS.cF (WS.rg (RS.mS 2 [kB 62 (decide (a0_0=6)),kB 64 (decide (a0_0=6))] (RS.dn (WS.nxt ?_)))))
      rcases z0 h with ⟨hp,h⟩ | ⟨hp,h⟩
      ·refine WS.fx 62 true (decide_eq_true hp) (WS.cT (WS.rg (RS.mS 4 [kB 68 (decide (a0_1=0)),kB 67 (decide (a0_1=0)),kI 66 a0_1,kL 65 0 1] ?_)))
       rcases z0 h with ⟨hp,h⟩ | ⟨hp,h⟩
       ·refine RS.fx 68 true (decide_eq_true hp) (RS.mS 2 [kT 70 a0_2,kL 69 0 2] ?_)
        obtain ⟨x1,hx,h⟩:=bind_some h
        refine RS.cl (some 71) (v:=(Value.bool x1)) 54 #[(Value.string a0_2)] (zgy hx) (RS.mS 2 [kB 73 x1,kB 72 x1] ?_)
        rcases z0 h with ⟨hp,h⟩ | ⟨hp,h⟩
        ·refine RS.fx 73 true hp (RS.mS 6 [kB 3 (decide ((a0_3.n:Int)=0)),kB 78 (decide ((a0_3.n:Int)=0)),kB 77 (decide ((a0_3.n:Int)=0)),kI 76 (a0_3.n:Int),kS 75 a0_3,kL 74 0 3] (RS.dn ?_))
         refine fun a w hs=>bkN ((WS.nxt ?_ a w hs))
         refine WS.sq (WS.sq (WS.rg (RS.mS 4 [kI 82 0,kI 81 (a0_3.n:Int),kS 80 a0_3,kL 79 0 3] (RS.dn (WS.nxt (WS.bk 1 ?_))))))
         obtain ⟨o,hl,h⟩:=bind_some h
         rcases o with ⟨v3_4,v82_5⟩ | r
         ·try dsimp only at h
          refine WS.lI (zar (L:=L) (E:=E) (m:=m) (H:=H)) (L.ok hl) 1 ?_
          clear hl
          refine fun a w hs=>bkE ((WS.nxt ?_ a w hs))
          refine WS.sq (WS.rg (RS.mS 2 [kB 2 v3_4,kB 92 v3_4] (RS.dn (WS.nxt (WS.rt ?_)))))
          cases h
          exact fun a w hs=>rtR (rS hs)
         ·try dsimp only at h
          refine WS.lR (zar (L:=L) (E:=E) (m:=m) (H:=H)) (L.ok hl) 1 ?_
          cases h
          exact fun a w hq=>bkR (sqR (rtR hq))
        ·refine RS.fx 73 false (b_not hp) ?_
         cases h
       ·refine RS.fx 68 false (decide_eq_false hp) ?_
        cases h
      ·refine WS.fx 62 false (decide_eq_false hp) (WS.cF ?_)
       cases h
theorem zgu {L:LC}:∀n,(∀(m:Nat) (H:AH) (a0_0 a0_1:Int) (a0_2:ByteArray) (a0_3:Sl3) (r:Bool),((zcm L n)) H a0_0 a0_1 a0_2 a0_3=some r→CallS Tryz.prog (NE.plain 114) m 120 #[(Value.agg #[(Value.int .i64 a0_0),(Value.int .i64 a0_1),(Value.string a0_2),(Sl3.v a0_3)])] H (z4j r) (z5p H r)):=by
 intro n
 induction n with
 | zero=>exact (fun _ _ _ _ _ _ _ h=>(Option.some_ne_none _ h.symm).elim)
 | succ n ih=>exact (fun _ _ _ _ _ _ _ h=>zg2 (L:=L)  h)
theorem zju {L:LC} {m:Nat} {H:AH} {a0_0 a0_1:Int} {a0_2:ByteArray} {a0_3:Sl3} {r:Bool} (h:zhy L H a0_0 a0_1 a0_2 a0_3=some r) :
  CallS Tryz.prog (NE.plain 114) m 120 #[(Value.agg #[(Value.int .i64 a0_0),(Value.int .i64 a0_1),(Value.string a0_2),(Sl3.v a0_3)])] H (z4j r) (z5p H r) :=
 (zgu _) _ _ _ _ _ _ _ h
def zjq:Int→Value
 | r0=>(Value.int .i64 r0)
def zl7 (H:AH):Int→AH:=fun _=>H
noncomputable def B98:Code:=(Tryz.f98.body).getD .skip
noncomputable def zeq (L:LC) (H:AH) (a0_0 a0_1:Int) (a0_2:ByteArray) (a0_3:Sl3):Option Int :=
 Option.bind (zjg L H a0_0 a0_1 a0_2 a0_3 1) fun (_,x2) =>
 if x2=true then
  Option.bind (zhy L H a0_0 a0_1 a0_2 a0_3) fun x3 =>
  if x3=true then
   some 0
  else
   none
 else
  none
theorem zkw {L:LC} {m:Nat} {H:AH} {a0_0 a0_1:Int} {a0_2:ByteArray} {a0_3:Sl3} {r:Int} (h:zeq L H a0_0 a0_1 a0_2 a0_3=some r) :
  CallS Tryz.prog (NE.plain 114) m 98 #[(Value.agg #[(Value.int .i64 a0_0),(Value.int .i64 a0_1),(Value.string a0_2),(Sl3.v a0_3)])] H (zjq r) (zl7 H r):=by
 refine CallS.mk (args:=[(Value.agg #[(Value.int .i64 a0_0),(Value.int .i64 a0_1),(Value.string a0_2),(Sl3.v a0_3)])]) Tryz.func98 (B:=B98) (by kernel_rfl) (fun E _=>?_)
 unfold zeq at h
 refine WS.sq (WS.rg (RS.mL 2 [kI 2 0,kL 1 0 0] ([some (59,[(Value.int .i64 a0_0),(Value.int .i64 a0_1),(Value.string a0_2),(Sl3.v a0_3)])]) (RS.dn (WS.nxt (WS.sq (WS.sq (WS.rg (RS.mS 1 [kA 6 #[(Value.int .i64 a0_0),(Value.int .i64 a0_1),(Value.string a0_2),(Sl3.v a0_3)]] ?_))))))))
 obtain ⟨⟨x1,x2⟩,hx,h⟩:=bind_some h
 try dsimp only at h
 refine RS.cl (some 7) (v:=(Value.tuple #[(Value.int .i64 x1),(Value.bool x2)])) 119 #[(Value.agg #[(Value.int .i64 a0_0),(Value.int .i64 a0_1),(Value.string a0_2),(Sl3.v a0_3)]),(Value.int .i64 1)] (zl8 hx) (RS.mS 5 [kB 4 x2,kI 3 x1,kB 9 x2,kI 8 x1,(5,.val (Value.tuple #[(Value.int .i64 x1),(Value.bool x2)]))] (RS.dn (WS.nxt (WS.sq (WS.rg (RS.mS 2 [kB 11 (!x2),kB 10 x2] (RS.dn (WS.nxt ?_))))))))
 rcases z0 h with ⟨hp,h⟩ | ⟨hp,h⟩
 ·refine WS.fx 11 false (nb_not hp) (WS.cF (WS.sk (WS.nxt (WS.sq (WS.sq (WS.rg (RS.mS 1 [kA 12 #[(Value.int .i64 a0_0),(Value.int .i64 a0_1),(Value.string a0_2),(Sl3.v a0_3)]] ?_)))))))
  obtain ⟨x3,hx,h⟩:=bind_some h
  refine RS.cl (some 13) (v:=(Value.bool x3)) 120 #[(Value.agg #[(Value.int .i64 a0_0),(Value.int .i64 a0_1),(Value.string a0_2),(Sl3.v a0_3)])] (zju hx) (RS.mS 1 [kB 14 (!x3)] (RS.dn (WS.nxt ?_)))
  rcases z0 h with ⟨hp,h⟩ | ⟨hp,h⟩
  ·refine WS.fx 14 false (nb_not hp) (WS.cF (WS.sk (WS.nxt (WS.sq (WS.rg (RS.mS 1 [kI 2 0] (RS.dn (WS.nxt (WS.rt ?_)))))))))
   cases h
   exact fun a w hs=>rtR (rS hs)
  ·refine WS.fx 14 true (zk hp) (WS.cT ?_)
   cases h
 ·refine WS.fx 11 true (zk hp) (WS.cT ?_)
  cases h
def zfu:Int→Value
 | r0=>(Value.int .i64 r0)
def zgt (H:AH):Int→AH:=fun _=>H
noncomputable def B77:Code:=(Tryz.f77.body).getD .skip
noncomputable def z4l (L:LC) (H:AH) (a0:Option Addr) (a1_0 a1_1:Int) (a1_2:ByteArray) (a1_3:Sl3):Option Int :=
 Option.bind (zeq L H a1_0 a1_1 a1_2 a1_3) fun x1 =>
 if x1=0 then
  Option.bind (zcx L H a0 a1_0 a1_1 a1_2 a1_3) fun x2 =>
  if x2=true then
   some 0
  else
   none
 else
  none
theorem z9r {L:LC} {m:Nat} {H:AH} {a0:Option Addr} {a1_0 a1_1:Int} {a1_2:ByteArray} {a1_3:Sl3} {r:Int} (h:z4l L H a0 a1_0 a1_1 a1_2 a1_3=some r) :
  CallS Tryz.prog (NE.plain 114) m 77 #[(Value.pointer a0),(Value.agg #[(Value.int .i64 a1_0),(Value.int .i64 a1_1),(Value.string a1_2),(Sl3.v a1_3)])] H (zfu r) (zgt H r):=by
 refine CallS.mk (args:=[(Value.pointer a0),(Value.agg #[(Value.int .i64 a1_0),(Value.int .i64 a1_1),(Value.string a1_2),(Sl3.v a1_3)])]) Tryz.func77 (B:=B77) (by kernel_rfl) (fun E _=>?_)
 unfold z4l at h
 refine WS.sq (WS.rg (RS.mL 2 [kI 4 0,kL 3 0 0] ([some (59,[(Value.int .i64 a1_0),(Value.int .i64 a1_1),(Value.string a1_2),(Sl3.v a1_3)])]) (RS.dn (WS.nxt (WS.sq (WS.sq (WS.rg (RS.mS 1 [kA 6 #[(Value.int .i64 a1_0),(Value.int .i64 a1_1),(Value.string a1_2),(Sl3.v a1_3)]] ?_))))))))
 obtain ⟨x1,hx,h⟩:=bind_some h
 refine RS.cl (some 7) (v:=(Value.int .i64 x1)) 98 #[(Value.agg #[(Value.int .i64 a1_0),(Value.int .i64 a1_1),(Value.string a1_2),(Sl3.v a1_3)])] (zkw hx) (RS.mS 1 [kI 5 x1] (RS.dn (WS.nxt (WS.sq (WS.rg (RS.mS 2 [kB 9 (!decide (x1=0)),kI 8 x1] (RS.dn (WS.nxt ?_))))))))
 rcases z0 h with ⟨hp,h⟩ | ⟨hp,h⟩
 ·refine WS.fx 9 false (z2b hp) (WS.cF (WS.sk (WS.nxt (WS.sq (WS.sq (WS.rg (RS.mS 2 [kA 12 #[(Value.int .i64 a1_0),(Value.int .i64 a1_1),(Value.string a1_2),(Sl3.v a1_3)],(11,.val (Value.pointer a0))] ?_)))))))
  obtain ⟨x2,hx,h⟩:=bind_some h
  refine RS.cl (some 13) (v:=(Value.bool x2)) 104 #[(Value.pointer a0),(Value.agg #[(Value.int .i64 a1_0),(Value.int .i64 a1_1),(Value.string a1_2),(Sl3.v a1_3)])] (zgb hx) (RS.mS 1 [kB 14 (!x2)] (RS.dn (WS.nxt ?_)))
  rcases z0 h with ⟨hp,h⟩ | ⟨hp,h⟩
  ·refine WS.fx 14 false (nb_not hp) (WS.cF (WS.sk (WS.nxt (WS.sq (WS.rg (RS.mS 1 [kI 4 0] (RS.dn (WS.nxt (WS.rt ?_)))))))))
   cases h
   exact fun a w hs=>rtR (rS hs)
  ·refine WS.fx 14 true (zk hp) (WS.cT ?_)
   cases h
 ·refine WS.fx 9 true (z1k hp) (WS.cT ?_)
  cases h
def zkb:(Int×AH)→Value
 | (r0,_)=>(Value.int .i64 r0)
def zky (_:AH):(Int×AH)→AH:=fun r=>r.2
noncomputable def B108:Code:=(Tryz.f108.body).getD .skip
noncomputable def zej (L:LC) (m:Nat) (H:AH) (a0_0 a0_1:Int) (a0_2:ByteArray) (a0_3 a1_0:Sl3) (a1_1 a1_2:Sl3):Option (Int×AH) :=
 Option.bind (z9k L (Nat.max m H.next) H a1_0 a1_1 a1_2) fun (x1,H2) =>
 Option.bind (z4l L H2 x1 a0_0 a0_1 a0_2 a0_3) fun x3 =>
 some (x3,H2)
theorem zkz {L:LC} {m:Nat} {H:AH} {a0_0 a0_1:Int} {a0_2:ByteArray} {a0_3 a1_0:Sl3} {a1_1 a1_2:Sl3} {r:(Int×AH)} (h:zej L m H a0_0 a0_1 a0_2 a0_3 a1_0 a1_1 a1_2=some r) :
  CallS Tryz.prog (NE.plain 114) m 108 #[(Value.agg #[(Value.int .i64 a0_0),(Value.int .i64 a0_1),(Value.string a0_2),(Sl3.v a0_3)]),(Value.agg #[(Sl3.v a1_0),(Sl3.v a1_1),(Sl3.v a1_2)])] H (zkb r) (zky H r):=by
 refine CallS.mk (args:=[(Value.agg #[(Value.int .i64 a0_0),(Value.int .i64 a0_1),(Value.string a0_2),(Sl3.v a0_3)]),(Value.agg #[(Sl3.v a1_0),(Sl3.v a1_1),(Sl3.v a1_2)])]) Tryz.func108 (B:=B108) (by kernel_rfl) (fun E _=>?_)
 unfold zej at h
 refine WS.sq (WS.rg (RS.mL 3 [kI 4 0,kL 3 1 0,kL 2 0 0] ([some (59,[(Value.int .i64 a0_0),(Value.int .i64 a0_1),(Value.string a0_2),(Sl3.v a0_3)]),some (32,[(Sl3.v a1_0),(Sl3.v a1_1),(Sl3.v a1_2)])]) (RS.dn (WS.nxt (WS.sq ?_)))))
 refine WS.dr [0,2] [0,1,0,7,15] 5 (fun hcl=>?_)
 refine DA.tL 0 (some 5) (.val (Value.agg #[(Sl3.v a1_0),(Sl3.v a1_1),(Sl3.v a1_2)])) (DA.tL 2 (some 7) (.val (Value.agg #[(Value.int .i64 a0_0),(Value.int .i64 a0_1),(Value.string a0_2),(Sl3.v a0_3)])) ?_)
 obtain ⟨⟨x1,H2⟩,hx,h⟩:=bind_some h
 try dsimp only at h
 refine DA.on 1 (DA.aCj 1 (some 6) false (v:=(Value.pointer x1)) 56 #[(Value.agg #[(Sl3.v a1_0),(Sl3.v a1_1),(Sl3.v a1_2)])] (zbc hx) ?_)
 obtain ⟨x3,hx,h⟩:=bind_some h
 refine DA.on 3 (DA.aC 3 (some 8) (v:=(Value.int .i64 x3)) 77 #[(Value.pointer x1),(Value.agg #[(Value.int .i64 a0_0),(Value.int .i64 a0_1),(Value.string a0_2),(Sl3.v a0_3)])] (z9r hx) (DA.tP 4 (some 4) (Value.int .i64 x3) (DA.dn (WS.nxt (WS.rt ?_)))))
 cases h
 exact fun a w hs=>rtR (rS hs)
def z2w:(Sl3×AH)→Value
 | (r0,_)=>(Sl3.v r0)
def z3d (_:AH):(Sl3×AH)→AH:=fun r=>r.2
noncomputable def B80:Code:=(Tryz.f80.body).getD .skip
noncomputable def z3l (_L:LC) (_q1:Addr) (_x4:Sl3) (_v20_7:Int) (_x9_0:ByteArray) (x9_1:Sl3):(AH×Sl3×Int)→Option (Lp (AH×Sl3×Int) (Sl3×AH)):=fun (H10,v5_11,v27_12) =>
 if v27_12<(x9_1.n:Int) then
  none
 else
  some (.brk (H10,v5_11,v27_12))
def zc1 (_L:LC) (q1:Addr) (x4:Sl3) (v20_7:Int) (x9_0:ByteArray) (x9_1:Sl3):(AH×Sl3×Int)→KN×Lcs:=fun (_,v5_11,v27_12)=>([kS 5 v5_11,kI 27 v27_12,kP 0 q1,kS 18 x4,kI 19 (x4.n:Int),kI 20 v20_7,kS 25 x9_1,kI 26 (x9_1.n:Int)],[some (88,[(Value.string x9_0),(Sl3.v x9_1)])])
noncomputable def z35 (L:LC) (q1:Addr) (x4:Sl3):(AH×Sl3×Int)→Option (Lp (AH×Sl3×Int) (Sl3×AH)):=fun (H5,v5_6,v20_7) =>
 if v20_7<(x4.n:Int) then
  Option.bind (idxA 2 x4 v20_7) fun p8 =>
  Option.bind (rd deS H5 (Addr.add p8 0)) fun x9_0 =>
  Option.bind (rd deSl H5 (Addr.add p8 1)) fun x9_1 =>
  Option.bind (L.run (z3l L q1 x4 v20_7 x9_0 x9_1) (H5,v5_6,0)) fun o=>match o with
  | .inl (H13,v5_14,_) =>
   some (.next (H13,v5_14,(IntKind.i64.wrap (v20_7+1))))
  | .inr r=>some (.ret r)
 else
  some (.brk (H5,v5_6,v20_7))
def zc8 (_L:LC) (q1:Addr) (x4:Sl3):(AH×Sl3×Int)→KN×Lcs:=fun (_,v5_6,v20_7)=>([kS 5 v5_6,kI 20 v20_7,kP 0 q1,kS 18 x4,kI 19 (x4.n:Int)],[])
noncomputable def z4u (L:LC) (_m:Nat) (H:AH) (a0:Option Addr) (a1:Int):Option (Sl3×AH) :=
 Option.bind a0 fun q1 =>
 Option.bind (rd deSl H (Addr.add (Addr.add q1 0) 1)) fun x2 =>
 Option.bind (idxA 2 x2 a1) fun p3 =>
 Option.bind (rd deSl H (Addr.add p3 1)) fun x4 =>
 Option.bind (L.run (z35 L q1 x4) (H,Sl3.nil,0)) fun o=>match o with
 | .inl (H16,v5_17,_) =>
  some (v5_17,H16)
 | .inr r=>some r
theorem z4y {E m H L q1 x4 v20_7 x9_0 x9_1} :LoopF Tryz.prog (NE.plain 114) m E Tryz.f80 ((cfst (csnd (csnd (cfst (cfst (csnd (csnd (cfst (cfst (csnd (cfst (csnd (csnd B80)))))))))))))) (zc1 L q1 x4 v20_7 x9_0 x9_1) (fun s=>s.1) 2 z2w (z3d H) (z3l L q1 x4 v20_7 x9_0 x9_1):=by
 rintro ⟨H10,v5_11,v27_12⟩ o h
 unfold z3l at h
 try dsimp only at h
 refine WS.sq (WS.rg (RS.mS 1 [kB 28 (decide (v27_12<(x9_1.n:Int)))] (RS.dn (WS.nxt (WS.sq ?_)))))
 rcases z0 h with ⟨hp,h⟩ | ⟨hp,h⟩
 ·refine WS.fx 28 true (decide_eq_true hp) (WS.cT ?_)
  cases h
 ·refine WS.fx 28 false (decide_eq_false hp) (WS.cF (WS.ex 2 ?_))
  cases h
  exact fun a w hs=>sqE (lsB rfl (hs.sb 1))
theorem z59 {E m H L q1 x4} :LoopF Tryz.prog (NE.plain 114) m E Tryz.f80 ((cfst (csnd (cfst (csnd (csnd B80)))))) (zc8 L q1 x4) (fun s=>s.1) 0 z2w (z3d H) (z35 L q1 x4):=by
 rintro ⟨H5,v5_6,v20_7⟩ o h
 unfold z35 at h
 try dsimp only at h
 refine WS.sq (WS.rg (RS.mS 1 [kB 21 (decide (v20_7<(x4.n:Int)))] (RS.dn (WS.nxt (WS.sq ?_)))))
 rcases z0 h with ⟨hp,h⟩ | ⟨hp,h⟩
 ·refine WS.fx 21 true (decide_eq_true hp) (WS.cT (WS.sk (WS.nxt (WS.sq (WS.bk 1 (WS.sq (WS.rg ?_)))))))
  obtain ⟨p8,hx,h⟩:=bind_some h
  refine RS.ix 22 89 88 (.tmp 18) (.tmp 20) hx ?_
  obtain ⟨x9_0,hx0,h⟩:=bind_some h
  obtain ⟨x9_1,hx1,h⟩:=bind_some h
  refine RS.la 23 88 (.tmp 22) 2 (z2 (z1 hx0 z9) (z2 (z1 hx1 z3) za)) (RS.mL 2 [kL 7 0 0] ([some (88,[(Value.string x9_0),(Sl3.v x9_1)])]) (RS.dn (WS.nxt (WS.sq (WS.rg (RS.mS 4 [kI 27 0,kI 26 (x9_1.n:Int),kS 25 x9_1,kL 24 0 1] (RS.dn (WS.nxt (WS.bk 2 ?_)))))))))
  obtain ⟨o,hl,h⟩:=bind_some h
  rcases o with ⟨H13,v5_14,v27_15⟩ | r
  ·try dsimp only at h
   refine WS.lI (z4y (L:=L) (E:=E) (m:=m) (H:=H)) (L.ok hl) 1 ?_
   clear hl
   refine fun a w hs=>bkE (bkN ((WS.nxt ?_ a w hs)))
   refine WS.rg (RS.mS 2 [kI 20 (IntKind.i64.wrap (v20_7+1)),kI 38 (IntKind.i64.wrap (v20_7+1))] (RS.dn ?_))
   cases h
   exact fun a w hs=>lsN rfl (hs.sb 0)
  ·try dsimp only at h
   refine WS.lR (z4y (L:=L) (E:=E) (m:=m) (H:=H)) (L.ok hl) 1 ?_
   cases h
   exact fun a w hq=>bkR (bkR (sqR (lsR rfl hq)))
 ·refine WS.fx 21 false (decide_eq_false hp) (WS.cF (WS.ex 0 ?_))
  cases h
  exact fun a w hs=>sqE (lsB rfl (hs.sb 0))
theorem zdz {L:LC} {m:Nat} {H:AH} {a0:Option Addr} {a1:Int} {r:(Sl3×AH)} (h:z4u L m H a0 a1=some r) :
  CallS Tryz.prog (NE.plain 114) m 80 #[(Value.pointer a0),(Value.int .i64 a1)] H (z2w r) (z3d H r):=by
 refine CallS.mk (args:=[(Value.pointer a0),(Value.int .i64 a1)]) Tryz.func80 (B:=B80) (by kernel_rfl) (fun E _=>?_)
 unfold z4u at h
 refine WS.sq (WS.rg (RS.mS 1 [kS 4 Sl3.nil] (RS.dn (WS.nxt (WS.sq (WS.rg (RS.mS 1 [kS 5 Sl3.nil] (RS.dn (WS.nxt ?_)))))))))
 refine WS.sq (WS.sq (WS.rg (RS.mS 1 [(10,.val (Value.pointer a0))] ?_)))
 obtain ⟨q1,hx,hq1⟩:=bind_some h
 subst hx
 have h:=hq1
 refine RS.mS 3 [(13,.val (Value.pointer (some (Addr.add (Addr.add q1 0) 1)))),(12,.val (Value.pointer (some (Addr.add q1 0)))),kP 11 q1] ?_
 obtain ⟨x2,hx,h⟩:=bind_some h
 refine RS.ld 14 29 (.tmp 13) (z1 hx z3) (RS.mS 1 [kI 15 a1] ?_)
 obtain ⟨p3,hx,h⟩:=bind_some h
 refine RS.ix 16 29 91 (.tmp 14) (.tmp 15) hx (RS.mS 1 [(17,.val (Value.pointer (some (Addr.add p3 1))))] ?_)
 obtain ⟨x4,hx,h⟩:=bind_some h
 refine RS.ld 18 89 (.tmp 17) (z1 hx z3) (RS.mS 2 [kI 20 0,kI 19 (x4.n:Int)] (RS.dn (WS.nxt (WS.bk 0 ?_))))
 obtain ⟨o,hl,h⟩:=bind_some h
 rcases o with ⟨H16,v5_17,v20_18⟩ | r
 ·try dsimp only at h
  refine WS.lI (z59 (L:=L) (E:=E) (m:=m) (H:=H)) (L.ok hl) 0 ?_
  clear hl
  refine fun a w hs=>bkE ((WS.nxt ?_ a w hs))
  refine WS.sq (WS.rg (RS.mS 2 [kS 4 v5_17,kS 39 v5_17] (RS.dn (WS.nxt (WS.rt ?_)))))
  cases h
  exact fun a w hs=>rtR (rS hs)
 ·try dsimp only at h
  refine WS.lR (z59 (L:=L) (E:=E) (m:=m) (H:=H)) (L.ok hl) 0 ?_
  cases h
  exact fun a w hq=>bkR (sqR (rtR hq))
def z41:(Sl3×AH)→Value
 | (r0,_)=>(Sl3.v r0)
def z5c (_:AH):(Sl3×AH)→AH:=fun r=>r.2
noncomputable def B59:Code:=(Tryz.f59.body).getD .skip
noncomputable def z5e (_L:LC) (_q1:Addr) (_x2 _s3:Sl3) (_v17_6:Int):(AH×Sl3)→Option (Lp (AH×Sl3) (Sl3×AH)):=fun (H13,v6_14) =>
 if (v6_14.n:Int) > 0 then
  none
 else
  some (.brk (H13,v6_14))
def ze4 (_L:LC) (q1:Addr) (x2 s3:Sl3) (v17_6:Int):(AH×Sl3)→KN×Lcs:=fun (_,v6_14)=>([kS 6 v6_14,kP 0 q1,kI 3 (x2.n:Int),kS 4 s3,kI 5 v17_6,kI 16 (x2.n:Int),kI 17 v17_6],[])
noncomputable def z4w (L:LC) (m:Nat) (q1:Addr) (x2 s3:Sl3):(AH×Int)→Option (Lp (AH×Int) (Sl3×AH)):=fun (H5,v17_6) =>
 if v17_6<(x2.n:Int) then
  Option.bind (mkS 4 1 1 #[(Value.bool false)] H5 (x2.n:Int) (x2.n:Int)) fun (s7,H8) =>
  Option.bind (idxA 1 s3 v17_6) fun p9 =>
  Option.bind (H8.setCell m p9 (Sl3.v s7)) fun H10 =>
  Option.bind (z4u L m H10 (some q1) v17_6) fun (x11,H12) =>
  Option.bind (L.run (z5e L q1 x2 s3 v17_6) (H12,x11)) fun o=>match o with
  | .inl (H15,_) =>
   some (.next (H15,(IntKind.i64.wrap (v17_6+1))))
  | .inr r=>some (.ret r)
 else
  some (.brk (H5,v17_6))
def ze3 (_L:LC) (_m:Nat) (q1:Addr) (x2 s3:Sl3):(AH×Int)→KN×Lcs:=fun (_,v17_6)=>([kI 17 v17_6,kP 0 q1,kI 3 (x2.n:Int),kS 4 s3,kI 16 (x2.n:Int)],[])
noncomputable def z4n (L:LC) (m:Nat) (H:AH) (a0:Option Addr):Option (Sl3×AH) :=
 Option.bind a0 fun q1 =>
 Option.bind (rd deSl H (Addr.add (Addr.add q1 0) 1)) fun x2 =>
 Option.bind (mkS 98 1 24 #[(Sl3.v Sl3.nil)] H (x2.n:Int) (x2.n:Int)) fun (s3,H4) =>
 Option.bind (L.run (z4w L m q1 x2 s3) (H4,0)) fun o=>match o with
 | .inl (H17,_) =>
  some (s3,H17)
 | .inr r=>some r
theorem z77 {E m H L q1 x2 s3 v17_6} :LoopF Tryz.prog (NE.plain 114) m E Tryz.f59 ((cfst (csnd (csnd (csnd (cfst (cfst (csnd (csnd (cfst (cfst (csnd (cfst (csnd (csnd (csnd B59)))))))))))))))) (ze4 L q1 x2 s3 v17_6) (fun s=>s.1) 2 z41 (z5c H) (z5e L q1 x2 s3 v17_6):=by
 rintro ⟨H13,v6_14⟩ o h
 unfold z5e at h
 try dsimp only at h
 refine WS.sq (WS.sq (WS.rg (RS.mS 3 [kB 30 (decide ((v6_14.n:Int) > 0)),kI 29 (v6_14.n:Int),kS 28 v6_14] (RS.dn (WS.nxt ?_)))))
 rcases z0 h with ⟨hp,h⟩ | ⟨hp,h⟩
 ·refine WS.fx 30 true (decide_eq_true hp) (WS.cT ?_)
  cases h
 ·refine WS.fx 30 false (decide_eq_false hp) (WS.cF (WS.ex 2 ?_))
  cases h
  exact fun a w hs=>sqE (lsB rfl (hs.sb 0))
theorem z76 {E H L m q1 x2 s3} :LoopF Tryz.prog (NE.plain 114) m E Tryz.f59 ((cfst (csnd (cfst (csnd (csnd (csnd B59))))))) (ze3 L m q1 x2 s3) (fun s=>s.1) 0 z41 (z5c H) (z4w L m q1 x2 s3):=by
 rintro ⟨H5,v17_6⟩ o h
 unfold z4w at h
 try dsimp only at h
 refine WS.sq (WS.rg (RS.mS 1 [kB 18 (decide (v17_6<(x2.n:Int)))] (RS.dn (WS.nxt (WS.sq ?_)))))
 rcases z0 h with ⟨hp,h⟩ | ⟨hp,h⟩
 ·refine WS.fx 18 true (decide_eq_true hp) (WS.cT (WS.sk (WS.nxt (WS.sq (WS.bk 1 (WS.sq (WS.rg (RS.mS 2 [kI 5 v17_6,kI 19 v17_6] (RS.dn ?_)))))))))
  refine WS.nxt (WS.sq (WS.rg (RS.mS 3 [kI 22 (x2.n:Int),kI 21 v17_6,kS 20 s3] ?_)))
  obtain ⟨⟨s7,H8⟩,hx,h⟩:=bind_some h
  try dsimp only at h
  refine RS.o (H':=H8) (some 23) (Sl3.v s7) (Abs.run_mk (t:=98) (x:=.tmp 22) (y:=.tmp 22) (k1:=.i64) (k2:=.i64) (by kernel_rfl) (by kernel_rfl) (by kernel_rfl) (by kernel_rfl) hx) ?_
  obtain ⟨p9,hx,h⟩:=bind_some h
  refine RS.ix 24 144 98 (.tmp 20) (.tmp 21) hx ?_
  obtain ⟨H10,hx,h⟩:=bind_some h
  refine RS.o (H':=H10) none undef (Abs.run_store1 (t:=98) (x:=.tmp 24) (y:=.tmp 23) (a:=p9) (v:=(Sl3.v s7)) (by kernel_rfl) (by kernel_rfl) (by kernel_rfl) (by kernel_rfl) (by kernel_rfl) hx) (RS.dn (WS.nxt (WS.sq (WS.rg (RS.mS 2 [kI 26 v17_6,kP 25 q1] ?_)))))
  obtain ⟨⟨x11,H12⟩,hx,h⟩:=bind_some h
  try dsimp only at h
  refine RS.cl (some 27) (v:=(Sl3.v x11)) 80 #[(Value.pointer (some q1)),(Value.int .i64 v17_6)] (zdz hx) (RS.mS 1 [kS 6 x11] (RS.dn (WS.nxt (WS.bk 2 ?_))))
  obtain ⟨o,hl,h⟩:=bind_some h
  rcases o with ⟨H15,v6_16⟩ | r
  ·try dsimp only at h
   refine WS.lI (z77 (L:=L) (E:=E) (m:=m) (H:=H)) (L.ok hl) 0 ?_
   clear hl
   refine fun a w hs=>bkE (bkN ((WS.nxt ?_ a w hs)))
   refine WS.rg (RS.mS 2 [kI 17 (IntKind.i64.wrap (v17_6+1)),kI 55 (IntKind.i64.wrap (v17_6+1))] (RS.dn ?_))
   cases h
   exact fun a w hs=>lsN rfl (hs.sb 0)
  ·try dsimp only at h
   refine WS.lR (z77 (L:=L) (E:=E) (m:=m) (H:=H)) (L.ok hl) 0 ?_
   cases h
   exact fun a w hq=>bkR (bkR (sqR (lsR rfl hq)))
 ·refine WS.fx 18 false (decide_eq_false hp) (WS.cF (WS.ex 0 ?_))
  cases h
  exact fun a w hs=>sqE (lsB rfl (hs.sb 0))
theorem z9g {L:LC} {m:Nat} {H:AH} {a0:Option Addr} {r:(Sl3×AH)} (h:z4n L m H a0=some r) :
  CallS Tryz.prog (NE.plain 114) m 59 #[(Value.pointer a0)] H (z41 r) (z5c H r):=by
 refine CallS.mk (args:=[(Value.pointer a0)]) Tryz.func59 (B:=B59) (by kernel_rfl) (fun E _=>?_)
 unfold z4n at h
 refine WS.sq (WS.rg (RS.mS 1 [kS 2 Sl3.nil] (RS.dn (WS.nxt (WS.sq (WS.rg (RS.mS 1 [(8,.val (Value.pointer a0))] ?_)))))))
 obtain ⟨q1,hx,hq1⟩:=bind_some h
 subst hx
 have h:=hq1
 refine RS.mS 3 [(11,.val (Value.pointer (some (Addr.add (Addr.add q1 0) 1)))),(10,.val (Value.pointer (some (Addr.add q1 0)))),kP 9 q1] ?_
 obtain ⟨x2,hx,h⟩:=bind_some h
 refine RS.ld 12 29 (.tmp 11) (z1 hx z3) (RS.mS 2 [kI 3 (x2.n:Int),kI 13 (x2.n:Int)] (RS.dn (WS.nxt (WS.sq (WS.rg (RS.mS 1 [kI 14 (x2.n:Int)] ?_))))))
 obtain ⟨⟨s3,H4⟩,hx,h⟩:=bind_some h
 try dsimp only at h
 refine RS.o (H':=H4) (some 15) (Sl3.v s3) (Abs.run_mk (t:=144) (x:=.tmp 14) (y:=.tmp 14) (k1:=.i64) (k2:=.i64) (by kernel_rfl) (by kernel_rfl) (by kernel_rfl) (by kernel_rfl) hx) (RS.mS 1 [kS 4 s3] (RS.dn (WS.nxt (WS.sq (WS.sq (WS.rg (RS.mS 2 [kI 17 0,kI 16 (x2.n:Int)] (RS.dn (WS.nxt ?_)))))))))
 refine WS.bk 0 ?_
 obtain ⟨o,hl,h⟩:=bind_some h
 rcases o with ⟨H17,v17_18⟩ | r
 ·try dsimp only at h
  refine WS.lI (z76 (L:=L) (E:=E) (m:=m) (H:=H)) (L.ok hl) 0 ?_
  clear hl
  refine fun a w hs=>bkE ((WS.nxt ?_ a w hs))
  refine WS.sq (WS.rg (RS.mS 2 [kS 2 s3,kS 56 s3] (RS.dn (WS.nxt (WS.rt ?_)))))
  cases h
  exact fun a w hs=>rtR (rS hs)
 ·try dsimp only at h
  refine WS.lR (z76 (L:=L) (E:=E) (m:=m) (H:=H)) (L.ok hl) 0 ?_
  cases h
  exact fun a w hq=>bkR (sqR (rtR hq))
def zhj:((Option Addr)×AH)→Value
 | (r0,_)=>(Value.pointer r0)
def zid (_:AH):((Option Addr)×AH)→AH:=fun r=>r.2
noncomputable def B122:Code:=(Tryz.f122.body).getD .skip
noncomputable def zak (L:LC) (m:Nat) (H:AH) (a0_0 a0_1 a0_2:Sl3) (a1:Int):Option ((Option Addr)×AH) :=
 Option.bind (z9k L m H a0_0 a0_1 a0_2) fun (x1,H2) =>
 Option.bind (z4n L m H2 x1) fun (x3,H4) =>
 Option.bind (newM H4) fun (p5,H6) =>
 Option.bind (newB 231 [(Value.pointer x1),(Value.int .i64 a1),(Sl3.v x3),(Value.map (some p5))] H6) fun (p7,H8) =>
 some ((some p7),H8)
theorem zir {L:LC} {m:Nat} {H:AH} {a0_0 a0_1 a0_2:Sl3} {a1:Int} {r:((Option Addr)×AH)} (h:zak L m H a0_0 a0_1 a0_2 a1=some r) :
  CallS Tryz.prog (NE.plain 114) m 122 #[(Value.agg #[(Sl3.v a0_0),(Sl3.v a0_1),(Sl3.v a0_2)]),(Value.int .i64 a1)] H (zhj r) (zid H r):=by
 refine CallS.mk (args:=[(Value.agg #[(Sl3.v a0_0),(Sl3.v a0_1),(Sl3.v a0_2)]),(Value.int .i64 a1)]) Tryz.func122 (B:=B122) (by kernel_rfl) (fun E _=>?_)
 unfold zak at h
 refine WS.sq (WS.rg (RS.mL 2 [(4,.val (Value.pointer none)),kL 2 0 0] ([some (32,[(Sl3.v a0_0),(Sl3.v a0_1),(Sl3.v a0_2)])]) (RS.dn (WS.nxt (WS.sq (WS.rg (RS.mS 1 [kA 6 #[(Sl3.v a0_0),(Sl3.v a0_1),(Sl3.v a0_2)]] ?_)))))))
 obtain ⟨⟨x1,H2⟩,hx,h⟩:=bind_some h
 try dsimp only at h
 refine RS.cl (some 7) (v:=(Value.pointer x1)) 56 #[(Value.agg #[(Sl3.v a0_0),(Sl3.v a0_1),(Sl3.v a0_2)])] (zbc hx) (RS.mS 1 [(5,.val (Value.pointer x1))] (RS.dn (WS.nxt (WS.sq (WS.rg (RS.mS 3 [(10,.val (Value.pointer x1)),kI 9 a1,(8,.val (Value.pointer x1))] ?_))))))
 obtain ⟨⟨x3,H4⟩,hx,h⟩:=bind_some h
 try dsimp only at h
 refine RS.cl (some 11) (v:=(Sl3.v x3)) 59 #[(Value.pointer x1)] (z9g hx) ?_
 obtain ⟨⟨p5,H6⟩,hx,h⟩:=bind_some h
 try dsimp only at h
 refine RS.o (H':=H6) (some 12) (Value.map (some p5)) (Abs.run_newM (by kernel_rfl) hx) (RS.mS 1 [kA 13 #[(Value.pointer x1),(Value.int .i64 a1),(Sl3.v x3),(Value.map (some p5))]] ?_)
 obtain ⟨⟨p7,H8⟩,hx,h⟩:=bind_some h
 try dsimp only at h
 refine RS.o (H':=H8) (some 14) (Value.pointer (some p7)) (Abs.run_newB (by kernel_rfl) hx) (RS.mS 1 [kP 4 p7] (RS.dn (WS.nxt (WS.rt ?_))))
 cases h
 exact fun a w hs=>rtR (rS hs)
end Go.Proofs.YthhbfmgipdbilaaGreatDoor
namespace Go.Proofs.YthhbfmgipdbilaaGreatDoor
open Go Go.Abs
set_option maxRecDepth 100000
def z4z:(Bool×AH)→Value
 | (r0,_)=>(Value.bool r0)
def z68 (_:AH):(Bool×AH)→AH:=fun r=>r.2
def z1o:(Bool×AH)→Value
 | (r0,_)=>(Value.bool r0)
def z21 (_:AH):(Bool×AH)→AH:=fun r=>r.2
noncomputable def B123:Code:=(Tryz.f123.body).getD .skip
noncomputable def z4g (_L:LC) (rec_sort_ends_data:Nat→AH→(Option Addr)→Int→Option (Bool×AH)) (m:Nat) (H:AH) (a0:Option Addr) (a1_0 _a1_1:Int) (a1_2:ByteArray) (_a1_3:Sl3):Option (Bool×AH) :=
 if a1_0=1 then
  none
 else
  if a1_0=3 then
   none
  else
   if a1_0=4 then
    none
   else
    if a1_0=6 then
     Option.bind a0 fun q1 =>
     Option.bind (rd deP H (Addr.add q1 0)) fun x2 =>
     Option.bind x2 fun q3 =>
     Option.bind (rd deP H (Addr.add q3 0)) fun x4 =>
     Option.bind x4 fun q5 =>
     Option.bind (rd deM H (Addr.add q5 3)) fun x6 =>
     Option.bind (lk1 Tryz.prog 173 (deI .i64) H x6 (Value.agg #[(Value.int .i64 a1_0),(Value.string a1_2)])) fun x7 =>
     Option.bind (rd deM H (Addr.add q1 1)) fun x8 =>
     Option.bind (lkM Tryz.prog 220 deB H x8 (Value.int .i64 x7)) fun (_,b10) =>
     if b10=true then
      none
     else
      Option.bind (rec_sort_ends_data m H (some q1) x7) fun (x11,H12) =>
      Option.bind (rd deM H12 (Addr.add q1 1)) fun x13 =>
      Option.bind (upM Tryz.prog m 220 H12 x13 (Value.int .i64 x7) (Value.bool x11)) fun H14 =>
      some (x11,H14)
    else
     none
noncomputable def B133:Code:=(Tryz.f133.body).getD .skip
noncomputable def z60 (_L:LC) (_q1:Addr) (_x15:Sl3) (_v38_17:Int) (_x19_0:ByteArray) (x19_1:Sl3):(AH×Int)→Option (Lp (AH×Int) (Bool×AH)):=fun (H20,v45_21) =>
 if v45_21<(x19_1.n:Int) then
  none
 else
  some (.brk (H20,v45_21))
def zet (_L:LC) (q1:Addr) (x15:Sl3) (v38_17:Int) (x19_0:ByteArray) (x19_1:Sl3):(AH×Int)→KN×Lcs:=fun (_,v45_21)=>([kI 45 v45_21,kP 0 q1,kS 36 x15,kI 37 (x15.n:Int),kI 38 v38_17,kS 43 x19_1,kI 44 (x19_1.n:Int)],[some (88,[(Value.string x19_0),(Sl3.v x19_1)])])
noncomputable def z64 (L:LC) (q1:Addr) (x15:Sl3):(AH×Int)→Option (Lp (AH×Int) (Bool×AH)):=fun (H16,v38_17) =>
 if v38_17<(x15.n:Int) then
  Option.bind (idxA 2 x15 v38_17) fun p18 =>
  Option.bind (rd deS H16 (Addr.add p18 0)) fun x19_0 =>
  Option.bind (rd deSl H16 (Addr.add p18 1)) fun x19_1 =>
  Option.bind (L.run (z60 L q1 x15 v38_17 x19_0 x19_1) (H16,0)) fun o=>match o with
  | .inl (H22,_) =>
   some (.next (H22,(IntKind.i64.wrap (v38_17+1))))
  | .inr r=>some (.ret r)
 else
  some (.brk (H16,v38_17))
def zfa (_L:LC) (q1:Addr) (x15:Sl3):(AH×Int)→KN×Lcs:=fun (_,v38_17)=>([kI 38 v38_17,kP 0 q1,kS 36 x15,kI 37 (x15.n:Int)],[])
noncomputable def z4e (L:LC) (_m:Nat) (H:AH) (a0:Option Addr) (a1:Int):Option (Bool×AH) :=
 Option.bind a0 fun q1 =>
 Option.bind (rd deP H (Addr.add q1 0)) fun x2 =>
 Option.bind x2 fun q3 =>
 Option.bind (rd deSl H (Addr.add q3 2)) fun x4 =>
 Option.bind (idxA 1 x4 a1) fun p5 =>
 Option.bind (rd deSl H p5) fun x6 =>
 Option.bind (idxA 1 x6 a1) fun p7 =>
 Option.bind (rd deB H p7) fun x8 =>
 if x8=true then
  none
 else
  Option.bind (rd deP H (Addr.add q1 0)) fun x9 =>
  Option.bind x9 fun q10 =>
  Option.bind (rd deP H (Addr.add q10 0)) fun x11 =>
  Option.bind x11 fun q12 =>
  Option.bind (rd deSl H (Addr.add (Addr.add q12 0) 1)) fun x13 =>
  Option.bind (idxA 2 x13 a1) fun p14 =>
  Option.bind (rd deSl H (Addr.add p14 1)) fun x15 =>
  Option.bind (L.run (z64 L q1 x15) (H,0)) fun o=>match o with
  | .inl (H24,_) =>
   some (true,H24)
  | .inr r=>some r
noncomputable def z5f (L:LC) (n:Nat):(Nat→AH→(Option Addr)→Int→Int→ByteArray→Sl3→Option (Bool×AH))×(Nat→AH→(Option Addr)→Int→Option (Bool×AH)):=Nat.rec (motive:=fun _=>(Nat→AH→(Option Addr)→Int→Int→ByteArray→Sl3→Option (Bool×AH))×(Nat→AH→(Option Addr)→Int→Option (Bool×AH))) ((fun _ _ _ _ _ _ _=>none),(fun _ _ _ _=>none)) (fun _ p=>(z4g L p.2,z4e L)) n
noncomputable def ze8 (L:LC) (m:Nat) (H:AH) (a0:Option Addr) (a1_0 a1_1:Int) (a1_2:ByteArray) (a1_3:Sl3):Option (Bool×AH):=((z5f L L.fuel).1) m H a0 a1_0 a1_1 a1_2 a1_3
theorem zd2 {L:LC} {rec_sort_ends_data:Nat→AH→(Option Addr)→Int→Option (Bool×AH)} (hrec_sort_ends_data:∀(m:Nat) (H:AH) (a0:Option Addr) (a1:Int) (r:(Bool×AH)),rec_sort_ends_data m H a0 a1=some r→CallS Tryz.prog (NE.plain 114) m 133 #[(Value.pointer a0),(Value.int .i64 a1)] H (z1o r) (z21 H r)) {m:Nat} {H:AH} {a0:Option Addr} {a1_0 a1_1:Int} {a1_2:ByteArray} {a1_3:Sl3} {r:(Bool×AH)} (h:z4g L rec_sort_ends_data m H a0 a1_0 a1_1 a1_2 a1_3=some r) :
  CallS Tryz.prog (NE.plain 114) m 123 #[(Value.pointer a0),(Value.agg #[(Value.int .i64 a1_0),(Value.int .i64 a1_1),(Value.string a1_2),(Sl3.v a1_3)])] H (z4z r) (z68 H r):=by
 refine CallS.mk (args:=[(Value.pointer a0),(Value.agg #[(Value.int .i64 a1_0),(Value.int .i64 a1_1),(Value.string a1_2),(Sl3.v a1_3)])]) Tryz.func123 (B:=B123) (by kernel_rfl) (fun E _=>?_)
 unfold z4g at h
 refine WS.sq (WS.rg (RS.mL 2 [kB 4 false,kL 3 0 0] ([some (59,[(Value.int .i64 a1_0),(Value.int .i64 a1_1),(Value.string a1_2),(Sl3.v a1_3)])]) (RS.dn (WS.nxt (WS.sq (WS.sq (WS.rg (RS.mS 2 [kI 9 a1_0,kL 8 0 0] (RS.dn ?_)))))))))
 refine WS.nxt (WS.bk 0 (WS.sq (WS.sq (WS.rg (RS.mS 2 [kB 10 (decide (a1_0=1)),kB 11 (decide (a1_0=1))] (RS.dn (WS.nxt ?_)))))))
 rcases z0 h with ⟨hp,h⟩ | ⟨hp,h⟩
 ·refine WS.fx 10 true (decide_eq_true hp) (WS.cT ?_)
  cases h
 ·refine WS.fx 10 false (decide_eq_false hp) (WS.cF (WS.rg (RS.mS 2 [kB 10 (decide (a1_0=3)),kB 12 (decide (a1_0=3))] (RS.dn (WS.nxt ?_)))))
  rcases z0 h with ⟨hp,h⟩ | ⟨hp,h⟩
  ·refine WS.fx 10 true (decide_eq_true hp) (WS.cT ?_)
   cases h
  ·refine WS.fx 10 false (decide_eq_false hp) (WS.cF (WS.sq (WS.rg (RS.mS 2 [kB 13 (decide (a1_0=4)),kB 14 (decide (a1_0=4))] (RS.dn (WS.nxt ?_))))))
   rcases z0 h with ⟨hp,h⟩ | ⟨hp,h⟩
   ·refine WS.fx 13 true (decide_eq_true hp) (WS.cT ?_)
    cases h
   ·refine WS.fx 13 false (decide_eq_false hp) (WS.cF (WS.sq (WS.rg (RS.mS 2 [kB 41 (decide (a1_0=6)),kB 42 (decide (a1_0=6))] (RS.dn (WS.nxt ?_))))))
    rcases z0 h with ⟨hp,h⟩ | ⟨hp,h⟩
    ·refine WS.fx 41 true (decide_eq_true hp) (WS.cT (WS.sq ?_))
     refine WS.dr [0,1,2,3,4,5,6,7,8,9,10,11,12,13,14,15] [0,1,3,7,15,31,63,127,255,511,0,1024,0,4096,15360,32767,65535] 17 (fun hcl=>?_)
     refine DA.tK 0 (some 43) (Value.pointer a0) ?_
     obtain ⟨q1,hx,hq1⟩:=bind_some h
     subst hx
     have h:=hq1
     refine DA.tK 1 (some 44) (Value.pointer (some q1)) (DA.tK 2 (some 45) (Value.pointer (some (Addr.add q1 0))) ?_)
     obtain ⟨x2,hx,h⟩:=bind_some h
     refine DA.tD 3 (some 46) (Value.pointer x2) (Abs.det_load (t:=218) (x:=.tmp 45) (a:=(Addr.add q1 0)) (by kernel_rfl) (by kernel_rfl) (by kernel_rfl) (by kernel_rfl) (z1 hx z16)) ?_
     obtain ⟨q3,hx,hq3⟩:=bind_some h
     subst hx
     have h:=hq3
     refine DA.tK 4 (some 47) (Value.pointer (some q3)) (DA.tK 5 (some 48) (Value.pointer (some (Addr.add q3 0))) ?_)
     obtain ⟨x4,hx,h⟩:=bind_some h
     refine DA.tD 6 (some 49) (Value.pointer x4) (Abs.det_load (t:=140) (x:=.tmp 48) (a:=(Addr.add q3 0)) (by kernel_rfl) (by kernel_rfl) (by kernel_rfl) (by kernel_rfl) (z1 hx z16)) ?_
     obtain ⟨q5,hx,hq5⟩:=bind_some h
     subst hx
     have h:=hq5
     refine DA.tK 7 (some 50) (Value.pointer (some q5)) (DA.tK 8 (some 51) (Value.pointer (some (Addr.add q5 3))) ?_)
     obtain ⟨x6,hx,h⟩:=bind_some h
     refine DA.tD 9 (some 52) (Value.map x6) (Abs.det_load (t:=173) (x:=.tmp 51) (a:=(Addr.add q5 3)) (by kernel_rfl) (by kernel_rfl) (by kernel_rfl) (by kernel_rfl) (z1 hx z15)) (DA.tL 10 (some 53) (.loc 0 0) (DA.tL 11 (some 54) (.val (Value.int .i64 a1_0)) (DA.tL 12 (some 55) (.loc 0 2) (DA.tL 13 (some 56) (.val (Value.string a1_2)) (DA.tK 14 (some 57) (Value.agg #[(Value.int .i64 a1_0),(Value.string a1_2)]) ?_)))))
     obtain ⟨x7,hx,h⟩:=bind_some h
     refine DA.tD 15 (some 58) (Value.int .i64 x7) (Abs.det_look (t:=173) (x:=.tmp 52) (y:=.tmp 57) (mm:=x6) (k:=(Value.agg #[(Value.int .i64 a1_0),(Value.string a1_2)])) (by kernel_rfl) (by kernel_rfl) (by kernel_rfl) (by kernel_rfl) (lk1_eq hx z8)) (DA.tP 16 (some 5) (Value.int .i64 x7) (DA.dn (WS.nxt (WS.sq (WS.rg (RS.mS 3 [(62,.val (Value.pointer (some (Addr.add q1 1)))),kP 61 q1,kP 60 q1] ?_))))))
     obtain ⟨x8,hx,h⟩:=bind_some h
     refine RS.ld 63 220 (.tmp 62) (z1 hx z15) (RS.mS 1 [kI 64 x7] ?_)
     obtain ⟨⟨x9,b10⟩,hx,h⟩:=bind_some h
     try dsimp only at h
     refine RS.o (H':=H) (some 65) (Value.tuple #[(Value.bool x9),(Value.bool b10)]) (Abs.run_look (t:=220) (x:=.tmp 63) (y:=.tmp 64) (mm:=x8) (k:=(Value.int .i64 x7)) (by kernel_rfl) (by kernel_rfl) (by kernel_rfl) (by kernel_rfl) (lkM_eq hx z5n)) (RS.mS 5 [kB 7 b10,kB 6 x9,kB 67 b10,kB 66 x9,(59,.val (Value.tuple #[(Value.bool x9),(Value.bool b10)]))] (RS.dn (WS.nxt (WS.sq (WS.sq (WS.rg (RS.mS 2 [kB 69 (!b10),kB 68 b10] (RS.dn (WS.nxt ?_)))))))))
     rcases z0 h with ⟨hp,h⟩ | ⟨hp,h⟩
     ·refine WS.fx 69 false (nb_not hp) (WS.cF ?_)
      cases h
     ·refine WS.fx 69 true (zk hp) (WS.cT (WS.sq (WS.rg (RS.mS 2 [kI 71 x7,kP 70 q1] ?_))))
      obtain ⟨⟨x11,H12⟩,hx,h⟩:=bind_some h
      try dsimp only at h
      refine RS.cl (some 72) (v:=(Value.bool x11)) 133 #[(Value.pointer (some q1)),(Value.int .i64 x7)] (hrec_sort_ends_data _ _ _ _ _ hx) (RS.mS 1 [kB 6 x11] (RS.dn (WS.nxt (WS.rg (RS.mS 3 [(75,.val (Value.pointer (some (Addr.add q1 1)))),kP 74 q1,kP 73 q1] ?_)))))
      obtain ⟨x13,hx,h⟩:=bind_some h
      refine RS.ld 76 220 (.tmp 75) (z1 hx z15) (RS.mS 2 [kB 78 x11,kI 77 x7] ?_)
      obtain ⟨H14,hx,h⟩:=bind_some h
      refine RS.o (H':=H14) none undef (Abs.run_upM (t:=220) (x:=.tmp 76) (y:=.tmp 77) (z:=.tmp 78) (mm:=x13) (k:=(Value.int .i64 x7)) (v:=(Value.bool x11)) (by kernel_rfl) (by kernel_rfl) (by kernel_rfl) (by kernel_rfl) (by kernel_rfl) hx) (RS.dn (WS.nxt (WS.sq (WS.rg (RS.mS 2 [kB 4 x11,kB 79 x11] (RS.dn (WS.nxt (WS.rt ?_))))))))
      cases h
      exact fun a w hs=>bkR (sqR (rtR (rS hs)))
    ·refine WS.fx 41 false (decide_eq_false hp) (WS.cF ?_)
     cases h
theorem z7m {E m H L q1 x15 v38_17 x19_0 x19_1} :LoopF Tryz.prog (NE.plain 114) m E Tryz.f133 ((cfst (csnd (csnd (cfst (cfst (csnd (csnd (cfst (cfst (csnd (cfst (csnd (csnd B133)))))))))))))) (zet L q1 x15 v38_17 x19_0 x19_1) (fun s=>s.1) 2 z1o (z21 H) (z60 L q1 x15 v38_17 x19_0 x19_1):=by
 rintro ⟨H20,v45_21⟩ o h
 unfold z60 at h
 try dsimp only at h
 refine WS.sq (WS.rg (RS.mS 1 [kB 46 (decide (v45_21<(x19_1.n:Int)))] (RS.dn (WS.nxt (WS.sq ?_)))))
 rcases z0 h with ⟨hp,h⟩ | ⟨hp,h⟩
 ·refine WS.fx 46 true (decide_eq_true hp) (WS.cT ?_)
  cases h
 ·refine WS.fx 46 false (decide_eq_false hp) (WS.cF (WS.ex 2 ?_))
  cases h
  exact fun a w hs=>sqE (lsB rfl (hs.sb 1))
theorem z83 {E m H L q1 x15} :LoopF Tryz.prog (NE.plain 114) m E Tryz.f133 ((cfst (csnd (cfst (csnd (csnd B133)))))) (zfa L q1 x15) (fun s=>s.1) 0 z1o (z21 H) (z64 L q1 x15):=by
 rintro ⟨H16,v38_17⟩ o h
 unfold z64 at h
 try dsimp only at h
 refine WS.sq (WS.rg (RS.mS 1 [kB 39 (decide (v38_17<(x15.n:Int)))] (RS.dn (WS.nxt (WS.sq ?_)))))
 rcases z0 h with ⟨hp,h⟩ | ⟨hp,h⟩
 ·refine WS.fx 39 true (decide_eq_true hp) (WS.cT (WS.sk (WS.nxt (WS.sq (WS.bk 1 (WS.sq (WS.rg ?_)))))))
  obtain ⟨p18,hx,h⟩:=bind_some h
  refine RS.ix 40 89 88 (.tmp 36) (.tmp 38) hx ?_
  obtain ⟨x19_0,hx0,h⟩:=bind_some h
  obtain ⟨x19_1,hx1,h⟩:=bind_some h
  refine RS.la 41 88 (.tmp 40) 2 (z2 (z1 hx0 z9) (z2 (z1 hx1 z3) za)) (RS.mL 2 [kL 6 0 0] ([some (88,[(Value.string x19_0),(Sl3.v x19_1)])]) (RS.dn (WS.nxt (WS.sq (WS.rg (RS.mS 4 [kI 45 0,kI 44 (x19_1.n:Int),kS 43 x19_1,kL 42 0 1] (RS.dn (WS.nxt (WS.bk 2 ?_)))))))))
  obtain ⟨o,hl,h⟩:=bind_some h
  rcases o with ⟨H22,v45_23⟩ | r
  ·try dsimp only at h
   refine WS.lI (z7m (L:=L) (E:=E) (m:=m) (H:=H)) (L.ok hl) 1 ?_
   clear hl
   refine fun a w hs=>bkE (bkN ((WS.nxt ?_ a w hs)))
   refine WS.rg (RS.mS 2 [kI 38 (IntKind.i64.wrap (v38_17+1)),kI 55 (IntKind.i64.wrap (v38_17+1))] (RS.dn ?_))
   cases h
   exact fun a w hs=>lsN rfl (hs.sb 0)
  ·try dsimp only at h
   refine WS.lR (z7m (L:=L) (E:=E) (m:=m) (H:=H)) (L.ok hl) 1 ?_
   cases h
   exact fun a w hq=>bkR (bkR (sqR (lsR rfl hq)))
 ·refine WS.fx 39 false (decide_eq_false hp) (WS.cF (WS.ex 0 ?_))
  cases h
  exact fun a w hs=>sqE (lsB rfl (hs.sb 0))
theorem zde {L:LC} {m:Nat} {H:AH} {a0:Option Addr} {a1:Int} {r:(Bool×AH)} (h:z4e L m H a0 a1=some r) :
  CallS Tryz.prog (NE.plain 114) m 133 #[(Value.pointer a0),(Value.int .i64 a1)] H (z1o r) (z21 H r):=by
 refine CallS.mk (args:=[(Value.pointer a0),(Value.int .i64 a1)]) Tryz.func133 (B:=B133) (by kernel_rfl) (fun E _=>?_)
 unfold z4e at h
 refine WS.sq (WS.rg (RS.mS 1 [kB 4 false] (RS.dn (WS.nxt (WS.sq (WS.sq (WS.rg (RS.mS 1 [(9,.val (Value.pointer a0))] ?_))))))))
 obtain ⟨q1,hx,hq1⟩:=bind_some h
 subst hx
 have h:=hq1
 refine RS.mS 2 [(11,.val (Value.pointer (some (Addr.add q1 0)))),kP 10 q1] ?_
 obtain ⟨x2,hx,h⟩:=bind_some h
 refine RS.ld 12 218 (.tmp 11) (z1 hx z16) ?_
 obtain ⟨q3,hx,hq3⟩:=bind_some h
 subst hx
 have h:=hq3
 refine RS.mS 2 [(14,.val (Value.pointer (some (Addr.add q3 2)))),kP 13 q3] ?_
 obtain ⟨x4,hx,h⟩:=bind_some h
 refine RS.ld 15 144 (.tmp 14) (z1 hx z3) (RS.mS 1 [kI 16 a1] ?_)
 obtain ⟨p5,hx,h⟩:=bind_some h
 refine RS.ix 17 144 98 (.tmp 15) (.tmp 16) hx ?_
 obtain ⟨x6,hx,h⟩:=bind_some h
 refine RS.ld 18 98 (.tmp 17) (z1 hx z3) (RS.mS 1 [kI 19 a1] ?_)
 obtain ⟨p7,hx,h⟩:=bind_some h
 refine RS.ix 20 98 4 (.tmp 18) (.tmp 19) hx ?_
 obtain ⟨x8,hx,h⟩:=bind_some h
 refine RS.ld 21 4 (.tmp 20) (z1 hx z5n) (RS.dn (WS.nxt ?_))
 rcases z0 h with ⟨hp,h⟩ | ⟨hp,h⟩
 ·refine WS.fx 21 true hp (WS.cT ?_)
  cases h
 ·refine WS.fx 21 false (b_not hp) (WS.cF (WS.sk (WS.nxt (WS.sq (WS.sq (WS.rg (RS.mS 3 [(24,.val (Value.pointer (some (Addr.add q1 0)))),kP 23 q1,kP 22 q1] ?_)))))))
  obtain ⟨x9,hx,h⟩:=bind_some h
  refine RS.ld 25 218 (.tmp 24) (z1 hx z16) ?_
  obtain ⟨q10,hx,hq10⟩:=bind_some h
  subst hx
  have h:=hq10
  refine RS.mS 2 [(27,.val (Value.pointer (some (Addr.add q10 0)))),kP 26 q10] ?_
  obtain ⟨x11,hx,h⟩:=bind_some h
  refine RS.ld 28 140 (.tmp 27) (z1 hx z16) ?_
  obtain ⟨q12,hx,hq12⟩:=bind_some h
  subst hx
  have h:=hq12
  refine RS.mS 3 [(31,.val (Value.pointer (some (Addr.add (Addr.add q12 0) 1)))),(30,.val (Value.pointer (some (Addr.add q12 0)))),kP 29 q12] ?_
  obtain ⟨x13,hx,h⟩:=bind_some h
  refine RS.ld 32 29 (.tmp 31) (z1 hx z3) (RS.mS 1 [kI 33 a1] ?_)
  obtain ⟨p14,hx,h⟩:=bind_some h
  refine RS.ix 34 29 91 (.tmp 32) (.tmp 33) hx (RS.mS 1 [(35,.val (Value.pointer (some (Addr.add p14 1))))] ?_)
  obtain ⟨x15,hx,h⟩:=bind_some h
  refine RS.ld 36 89 (.tmp 35) (z1 hx z3) (RS.mS 2 [kI 38 0,kI 37 (x15.n:Int)] (RS.dn (WS.nxt (WS.bk 0 ?_))))
  obtain ⟨o,hl,h⟩:=bind_some h
  rcases o with ⟨H24,v38_25⟩ | r
  ·try dsimp only at h
   refine WS.lI (z83 (L:=L) (E:=E) (m:=m) (H:=H)) (L.ok hl) 0 ?_
   clear hl
   refine fun a w hs=>bkE ((WS.nxt ?_ a w hs))
   refine WS.sq (WS.rg (RS.mS 1 [kB 4 true] (RS.dn (WS.nxt (WS.rt ?_)))))
   cases h
   exact fun a w hs=>rtR (rS hs)
  ·try dsimp only at h
   refine WS.lR (z83 (L:=L) (E:=E) (m:=m) (H:=H)) (L.ok hl) 0 ?_
   cases h
   exact fun a w hq=>bkR (sqR (rtR hq))
theorem zdy {L:LC}:∀n,(∀(m:Nat) (H:AH) (a0:Option Addr) (a1_0 a1_1:Int) (a1_2:ByteArray) (a1_3:Sl3) (r:(Bool×AH)),((z5f L n).1) m H a0 a1_0 a1_1 a1_2 a1_3=some r→CallS Tryz.prog (NE.plain 114) m 123 #[(Value.pointer a0),(Value.agg #[(Value.int .i64 a1_0),(Value.int .i64 a1_1),(Value.string a1_2),(Sl3.v a1_3)])] H (z4z r) (z68 H r))∧(∀(m:Nat) (H:AH) (a0:Option Addr) (a1:Int) (r:(Bool×AH)),((z5f L n).2) m H a0 a1=some r→CallS Tryz.prog (NE.plain 114) m 133 #[(Value.pointer a0),(Value.int .i64 a1)] H (z1o r) (z21 H r)):=by
 intro n
 induction n with
 | zero=>exact ⟨(fun _ _ _ _ _ _ _ _ h=>(Option.some_ne_none _ h.symm).elim),(fun _ _ _ _ _ h=>(Option.some_ne_none _ h.symm).elim)⟩
 | succ n ih=>exact ⟨(fun _ _ _ _ _ _ _ _ h=>zd2 (L:=L) ih.2 h),(fun _ _ _ _ _ h=>zde (L:=L)  h)⟩
theorem zhd {L:LC} {m:Nat} {H:AH} {a0:Option Addr} {a1_0 a1_1:Int} {a1_2:ByteArray} {a1_3:Sl3} {r:(Bool×AH)} (h:ze8 L m H a0 a1_0 a1_1 a1_2 a1_3=some r) :
  CallS Tryz.prog (NE.plain 114) m 123 #[(Value.pointer a0),(Value.agg #[(Value.int .i64 a1_0),(Value.int .i64 a1_1),(Value.string a1_2),(Sl3.v a1_3)])] H (z4z r) (z68 H r) :=
 ((zdy _).1) _ _ _ _ _ _ _ _ h
def z6n:Bool→Value
 | r0=>(Value.bool r0)
def z85 (H:AH):Bool→AH:=fun _=>H
noncomputable def B52:Code:=(Tryz.f52.body).getD .skip
noncomputable def zbj (_L:LC) (H:AH) (_a0_0 _a0_1 _a0_2:Sl3) (_v24_2:Int) (_x4_0:ByteArray) (x4_1:Sl3):(Int×Int)→Option (Lp (Int×Int) Bool):=fun (v3_5,v46_6) =>
 if v46_6<(x4_1.n:Int) then
  Option.bind (idxA 2 x4_1 v46_6) fun p7 =>
  Option.bind (rd deS H (Addr.add p7 0)) fun _ =>
  Option.bind (rd deSl H (Addr.add p7 1)) fun x8_1 =>
  if (x8_1.n:Int) > 64 then
   none
  else
   some (.next ((IntKind.i64.wrap (v3_5+(x8_1.n:Int))),(IntKind.i64.wrap (v46_6+1))))
 else
  some (.brk (v3_5,v46_6))
def zjf (_L:LC) (_H:AH) (a0_0 a0_1 a0_2:Sl3) (v24_2:Int) (x4_0:ByteArray) (x4_1:Sl3):(Int×Int)→KN×Lcs:=fun (v3_5,v46_6)=>([kI 3 v3_5,kI 46 v46_6,kL 1 0 0,kS 22 a0_1,kI 23 (a0_1.n:Int),kI 24 v24_2,kS 44 x4_1,kI 45 (x4_1.n:Int)],[some (32,[(Sl3.v a0_0),(Sl3.v a0_1),(Sl3.v a0_2)]),some (91,[(Value.string x4_0),(Sl3.v x4_1)])])
noncomputable def zc4 (L:LC) (H:AH) (a0_0 a0_1 a0_2:Sl3):(Int×Int)→Option (Lp (Int×Int) Bool):=fun (v3_1,v24_2) =>
 if v24_2<(a0_1.n:Int) then
  Option.bind (idxA 2 a0_1 v24_2) fun p3 =>
  Option.bind (rd deS H (Addr.add p3 0)) fun x4_0 =>
  Option.bind (rd deSl H (Addr.add p3 1)) fun x4_1 =>
  if (x4_1.n:Int)<1 then
   none
  else
   if (x4_1.n:Int) > 64 then
    none
   else
    Option.bind (L.run (zbj L H a0_0 a0_1 a0_2 v24_2 x4_0 x4_1) ((IntKind.i64.wrap (v3_1+(x4_1.n:Int))),0)) fun o=>match o with
    | .inl (v3_9,_) =>
     some (.next (v3_9,(IntKind.i64.wrap (v24_2+1))))
    | .inr r=>some (.ret r)
 else
  some (.brk (v3_1,v24_2))
def zix (_L:LC) (_H:AH) (a0_0 a0_1 a0_2:Sl3):(Int×Int)→KN×Lcs:=fun (v3_1,v24_2)=>([kI 3 v3_1,kI 24 v24_2,kL 1 0 0,kS 22 a0_1,kI 23 (a0_1.n:Int)],[some (32,[(Sl3.v a0_0),(Sl3.v a0_1),(Sl3.v a0_2)])])
noncomputable def zbl (_L:LC) (H:AH) (_a0_0 _a0_1 a0_2:Sl3) (_v3_11:Int):Int→Option (Lp Int Bool):=fun v64_13 =>
 if v64_13<(a0_2.n:Int) then
  Option.bind (idxA 6 a0_2 v64_13) fun p14 =>
  Option.bind (rd deS H (Addr.add p14 0)) fun _ =>
  Option.bind (rd deSl H (Addr.add p14 1)) fun x15_1 =>
  Option.bind (rd (deI .i64) H (Addr.add p14 2)) fun _ =>
  Option.bind (rd (deI .i64) H (Addr.add p14 3)) fun _ =>
  Option.bind (rd deS H (Addr.add p14 4)) fun _ =>
  Option.bind (rd deSl H (Addr.add p14 5)) fun _ =>
  if (x15_1.n:Int) > 64 then
   none
  else
   some (.next (IntKind.i64.wrap (v64_13+1)))
 else
  some (.brk v64_13)
def zj1 (_L:LC) (_H:AH) (a0_0 a0_1 a0_2:Sl3) (v3_11:Int):Int→KN×Lcs:=fun v64_13=>([kI 64 v64_13,kI 3 v3_11,kS 62 a0_2,kI 63 (a0_2.n:Int)],[some (32,[(Sl3.v a0_0),(Sl3.v a0_1),(Sl3.v a0_2)])])
noncomputable def zgj (L:LC) (H:AH) (a0_0 a0_1 a0_2:Sl3):Option Bool :=
 Option.bind (L.run (zc4 L H a0_0 a0_1 a0_2) ((IntKind.i64.wrap ((IntKind.i64.wrap ((a0_0.n:Int)+(a0_1.n:Int)))+(a0_2.n:Int))),0)) fun o=>match o with
 | .inl (v3_11,_) =>
  Option.bind (L.run (zbl L H a0_0 a0_1 a0_2 v3_11) 0) fun o=>match o with
  | .inl _ =>
   some (decide (v3_11 > 4096))
  | .inr r=>some r
 | .inr r=>some r
theorem zcr {E m L H a0_0 a0_1 a0_2 v24_2 x4_0 x4_1} :LoopF Tryz.prog (NE.plain 114) m E Tryz.f52 ((cfst (csnd (csnd (csnd (cfst (cfst (csnd (csnd (cfst (cfst (csnd (cfst (csnd (csnd B52))))))))))))))) (zjf L H a0_0 a0_1 a0_2 v24_2 x4_0 x4_1) (fun _=>H) 2 z6n (z85 H) (zbj L H a0_0 a0_1 a0_2 v24_2 x4_0 x4_1):=by
 rintro ⟨v3_5,v46_6⟩ o h
 unfold zbj at h
 try dsimp only at h
 refine WS.sq (WS.rg (RS.mS 1 [kB 47 (decide (v46_6<(x4_1.n:Int)))] (RS.dn (WS.nxt (WS.sq ?_)))))
 rcases z0 h with ⟨hp,h⟩ | ⟨hp,h⟩
 ·refine WS.fx 47 true (decide_eq_true hp) (WS.cT (WS.sk (WS.nxt (WS.sq (WS.bk 3 (WS.sq (WS.rg ?_)))))))
  obtain ⟨p7,hx,h⟩:=bind_some h
  refine RS.ix 48 89 88 (.tmp 44) (.tmp 46) hx ?_
  obtain ⟨x8_0,hx0,h⟩:=bind_some h
  obtain ⟨x8_1,hx1,h⟩:=bind_some h
  refine RS.la 49 88 (.tmp 48) 2 (z2 (z1 hx0 z9) (z2 (z1 hx1 z3) za)) (RS.mL 2 [kL 7 2 0] ([some (32,[(Sl3.v a0_0),(Sl3.v a0_1),(Sl3.v a0_2)]),some (91,[(Value.string x4_0),(Sl3.v x4_1)]),some (88,[(Value.string x8_0),(Sl3.v x8_1)])]) (RS.dn (WS.nxt (WS.sq (WS.rg (RS.mS 6 [kI 3 (IntKind.i64.wrap (v3_5+(x8_1.n:Int))),kI 54 (IntKind.i64.wrap (v3_5+(x8_1.n:Int))),kI 53 (x8_1.n:Int),kS 52 x8_1,kL 51 2 1,kI 50 v3_5] (RS.dn (WS.nxt (WS.sq ?_)))))))))
  refine WS.rg (RS.mS 4 [kB 58 (decide ((x8_1.n:Int) > 64)),kI 57 (x8_1.n:Int),kS 56 x8_1,kL 55 2 1] (RS.dn (WS.nxt ?_)))
  rcases z0 h with ⟨hp,h⟩ | ⟨hp,h⟩
  ·refine WS.fx 58 true (decide_eq_true hp) (WS.cT ?_)
   cases h
  ·refine WS.fx 58 false (decide_eq_false hp) (WS.cF (WS.sk ?_))
   refine fun a w hs=>bkN ((WS.nxt ?_ a w hs))
   refine WS.rg (RS.mS 2 [kI 46 (IntKind.i64.wrap (v46_6+1)),kI 59 (IntKind.i64.wrap (v46_6+1))] (RS.dn ?_))
   cases h
   exact fun a w hs=>lsN rfl (hs.sb 2)
 ·refine WS.fx 47 false (decide_eq_false hp) (WS.cF (WS.ex 2 ?_))
  cases h
  exact fun a w hs=>sqE (lsB rfl (hs.sb 2))
theorem zd0 {E m L H a0_0 a0_1 a0_2} :LoopF Tryz.prog (NE.plain 114) m E Tryz.f52 ((cfst (csnd (cfst (csnd (csnd B52)))))) (zix L H a0_0 a0_1 a0_2) (fun _=>H) 0 z6n (z85 H) (zc4 L H a0_0 a0_1 a0_2):=by
 rintro ⟨v3_1,v24_2⟩ o h
 unfold zc4 at h
 try dsimp only at h
 refine WS.sq (WS.rg (RS.mS 1 [kB 25 (decide (v24_2<(a0_1.n:Int)))] (RS.dn (WS.nxt (WS.sq ?_)))))
 rcases z0 h with ⟨hp,h⟩ | ⟨hp,h⟩
 ·refine WS.fx 25 true (decide_eq_true hp) (WS.cT (WS.sk (WS.nxt (WS.sq (WS.bk 1 (WS.sq (WS.rg ?_)))))))
  obtain ⟨p3,hx,h⟩:=bind_some h
  refine RS.ix 26 29 91 (.tmp 22) (.tmp 24) hx ?_
  obtain ⟨x4_0,hx0,h⟩:=bind_some h
  obtain ⟨x4_1,hx1,h⟩:=bind_some h
  refine RS.la 27 91 (.tmp 26) 2 (z2 (z1 hx0 z9) (z2 (z1 hx1 z3) za)) (RS.mL 2 [kL 5 1 0] ([some (32,[(Sl3.v a0_0),(Sl3.v a0_1),(Sl3.v a0_2)]),some (91,[(Value.string x4_0),(Sl3.v x4_1)])]) (RS.dn (WS.nxt (WS.sq (WS.sq (WS.rg (RS.mS 6 [kI 3 (IntKind.i64.wrap (v3_1+(x4_1.n:Int))),kI 32 (IntKind.i64.wrap (v3_1+(x4_1.n:Int))),kI 31 (x4_1.n:Int),kS 30 x4_1,kL 29 1 1,kI 28 v3_1] (RS.dn (WS.nxt ?_)))))))))
  refine WS.sq (WS.rg (RS.mS 5 [kB 37 (decide ((x4_1.n:Int)<1)),kB 36 (decide ((x4_1.n:Int)<1)),kI 35 (x4_1.n:Int),kS 34 x4_1,kL 33 1 1] ?_))
  rcases z0 h with ⟨hp,h⟩ | ⟨hp,h⟩
  ·refine RS.fx 37 true (decide_eq_true hp) ?_
   cases h
  ·refine RS.fx 37 false (decide_eq_false hp) (RS.mS 5 [kB 42 (decide ((x4_1.n:Int) > 64)),kB 41 (decide ((x4_1.n:Int) > 64)),kI 40 (x4_1.n:Int),kS 39 x4_1,kL 38 1 1] (RS.dn (WS.nxt ?_)))
   rcases z0 h with ⟨hp,h⟩ | ⟨hp,h⟩
   ·refine WS.fx 42 true (decide_eq_true hp) (WS.cT ?_)
    cases h
   ·refine WS.fx 42 false (decide_eq_false hp) (WS.cF (WS.sk (WS.nxt (WS.sq (WS.rg (RS.mS 4 [kI 46 0,kI 45 (x4_1.n:Int),kS 44 x4_1,kL 43 1 1] (RS.dn (WS.nxt (WS.bk 2 ?_)))))))))
    obtain ⟨o,hl,h⟩:=bind_some h
    rcases o with ⟨v3_9,v46_10⟩ | r
    ·try dsimp only at h
     refine WS.lI (zcr (L:=L) (E:=E) (m:=m) (H:=H)) (L.ok hl) 2 ?_
     clear hl
     refine fun a w hs=>bkE (bkN ((WS.nxt ?_ a w hs)))
     refine WS.rg (RS.mS 2 [kI 24 (IntKind.i64.wrap (v24_2+1)),kI 60 (IntKind.i64.wrap (v24_2+1))] (RS.dn ?_))
     cases h
     exact fun a w hs=>lsN rfl (hs.sb 1)
    ·try dsimp only at h
     refine WS.lR (zcr (L:=L) (E:=E) (m:=m) (H:=H)) (L.ok hl) 2 ?_
     cases h
     exact fun a w hq=>bkR (bkR (sqR (lsR rfl hq)))
 ·refine WS.fx 25 false (decide_eq_false hp) (WS.cF (WS.ex 0 ?_))
  cases h
  exact fun a w hs=>sqE (lsB rfl (hs.sb 1))
theorem zcy {E m L H a0_0 a0_1 a0_2 v3_11} :LoopF Tryz.prog (NE.plain 114) m E Tryz.f52 ((cfst (csnd (cfst (csnd (csnd (csnd B52))))))) (zj1 L H a0_0 a0_1 a0_2 v3_11) (fun _=>H) 4 z6n (z85 H) (zbl L H a0_0 a0_1 a0_2 v3_11):=by
 rintro v64_13 o h
 unfold zbl at h
 try dsimp only at h
 refine WS.sq (WS.rg (RS.mS 1 [kB 65 (decide (v64_13<(a0_2.n:Int)))] (RS.dn (WS.nxt (WS.sq ?_)))))
 rcases z0 h with ⟨hp,h⟩ | ⟨hp,h⟩
 ·refine WS.fx 65 true (decide_eq_true hp) (WS.cT (WS.sk (WS.nxt (WS.sq (WS.bk 5 (WS.sq (WS.rg ?_)))))))
  obtain ⟨p14,hx,h⟩:=bind_some h
  refine RS.ix 66 30 93 (.tmp 62) (.tmp 64) hx ?_
  obtain ⟨x15_0,hx0,h⟩:=bind_some h
  obtain ⟨x15_1,hx1,h⟩:=bind_some h
  obtain ⟨x15_2,hx2,h⟩:=bind_some h
  obtain ⟨x15_3,hx3,h⟩:=bind_some h
  obtain ⟨x15_4,hx4,h⟩:=bind_some h
  obtain ⟨x15_5,hx5,h⟩:=bind_some h
  refine RS.la 67 93 (.tmp 66) 6 (z2 (z1 hx0 z9) (z2 (z1 hx1 z3) (z2 (z1 hx2 z8) (z2 (z1 hx3 z8) (z2 (z1 hx4 z9) (z2 (z1 hx5 z3) za)))))) (RS.mL 2 [kL 9 1 0] ([some (32,[(Sl3.v a0_0),(Sl3.v a0_1),(Sl3.v a0_2)]),some (93,[(Value.string x15_0),(Sl3.v x15_1),(Value.int .i64 x15_2),(Value.int .i64 x15_3),(Value.string x15_4),(Sl3.v x15_5)])]) (RS.dn (WS.nxt (WS.sq (WS.rg (RS.mS 4 [kB 71 (decide ((x15_1.n:Int) > 64)),kI 70 (x15_1.n:Int),kS 69 x15_1,kL 68 1 1] (RS.dn (WS.nxt ?_))))))))
  rcases z0 h with ⟨hp,h⟩ | ⟨hp,h⟩
  ·refine WS.fx 71 true (decide_eq_true hp) (WS.cT ?_)
   cases h
  ·refine WS.fx 71 false (decide_eq_false hp) (WS.cF (WS.sk ?_))
   refine fun a w hs=>bkN ((WS.nxt ?_ a w hs))
   refine WS.rg (RS.mS 2 [kI 64 (IntKind.i64.wrap (v64_13+1)),kI 72 (IntKind.i64.wrap (v64_13+1))] (RS.dn ?_))
   cases h
   exact fun a w hs=>lsN rfl (hs.sb 1)
 ·refine WS.fx 65 false (decide_eq_false hp) (WS.cF (WS.ex 4 ?_))
  cases h
  exact fun a w hs=>sqE (lsB rfl (hs.sb 1))
theorem zlx {L:LC} {m:Nat} {H:AH} {a0_0 a0_1 a0_2:Sl3} {r:Bool} (h:zgj L H a0_0 a0_1 a0_2=some r) :
  CallS Tryz.prog (NE.plain 114) m 52 #[(Value.agg #[(Sl3.v a0_0),(Sl3.v a0_1),(Sl3.v a0_2)])] H (z6n r) (z85 H r):=by
 refine CallS.mk (args:=[(Value.agg #[(Sl3.v a0_0),(Sl3.v a0_1),(Sl3.v a0_2)])]) Tryz.func52 (B:=B52) (by kernel_rfl) (fun E _=>?_)
 unfold zgj at h
 refine WS.sq (WS.rg (RS.mL 2 [kB 2 false,kL 1 0 0] ([some (32,[(Sl3.v a0_0),(Sl3.v a0_1),(Sl3.v a0_2)])]) (RS.dn (WS.nxt (WS.sq (WS.rg (RS.mS 12 [kI 3 (IntKind.i64.wrap ((IntKind.i64.wrap ((a0_0.n:Int)+(a0_1.n:Int)))+(a0_2.n:Int))),kI 20 (IntKind.i64.wrap ((IntKind.i64.wrap ((a0_0.n:Int)+(a0_1.n:Int)))+(a0_2.n:Int))),kI 19 (a0_2.n:Int),kS 18 a0_2,kL 17 0 2,kI 16 (IntKind.i64.wrap ((a0_0.n:Int)+(a0_1.n:Int))),kI 15 (a0_1.n:Int),kS 14 a0_1,kL 13 0 1,kI 12 (a0_0.n:Int),kS 11 a0_0,kL 10 0 0] (RS.dn (WS.nxt ?_)))))))))
 refine WS.sq (WS.sq (WS.rg (RS.mS 4 [kI 24 0,kI 23 (a0_1.n:Int),kS 22 a0_1,kL 21 0 1] (RS.dn (WS.nxt (WS.bk 0 ?_))))))
 obtain ⟨o,hl,h⟩:=bind_some h
 rcases o with ⟨v3_11,v24_12⟩ | r
 ·try dsimp only at h
  refine WS.lI (zd0 (L:=L) (E:=E) (m:=m) (H:=H)) (L.ok hl) 1 ?_
  clear hl
  refine fun a w hs=>bkE ((WS.nxt ?_ a w hs))
  refine WS.sq (WS.sq (WS.rg (RS.mS 4 [kI 64 0,kI 63 (a0_2.n:Int),kS 62 a0_2,kL 61 0 2] (RS.dn (WS.nxt (WS.bk 4 ?_))))))
  obtain ⟨o,hl,h⟩:=bind_some h
  rcases o with v64_16 | r
  ·try dsimp only at h
   refine WS.lI (zcy (L:=L) (E:=E) (m:=m) (H:=H)) (L.ok hl) 1 ?_
   clear hl
   refine fun a w hs=>bkE ((WS.nxt ?_ a w hs))
   refine WS.sq (WS.rg (RS.mS 3 [kB 2 (decide (v3_11 > 4096)),kB 74 (decide (v3_11 > 4096)),kI 73 v3_11] (RS.dn (WS.nxt (WS.rt ?_)))))
   cases h
   exact fun a w hs=>rtR (rS hs)
  ·try dsimp only at h
   refine WS.lR (zcy (L:=L) (E:=E) (m:=m) (H:=H)) (L.ok hl) 1 ?_
   cases h
   exact fun a w hq=>bkR (sqR (rtR hq))
 ·try dsimp only at h
  refine WS.lR (zd0 (L:=L) (E:=E) (m:=m) (H:=H)) (L.ok hl) 1 ?_
  cases h
  exact fun a w hq=>bkR (sqR (rtR hq))
def z3j:(Sl3×Sl3×AH)→Value
 | (r0,r1,_)=>(Value.tuple #[(Sl3.v r0),(Sl3.v r1)])
def z3z (_:AH):(Sl3×Sl3×AH)→AH:=fun r=>r.2.2
noncomputable def B53:Code:=(Tryz.f53.body).getD .skip
noncomputable def zao (_L:LC) (_a0_0 _a0_1 _a0_2:Sl3) (_v20_6:Int) (_x8_0:ByteArray) (_x8_1 _s11:Sl3) (_v32_15:Int) (_x17_0:ByteArray) (x17_1:Sl3):(AH×Sl3×Int)→Option (Lp (AH×Sl3×Int) (Sl3×Sl3×AH)):=fun (H22,v5_23,v44_24) =>
 if v44_24<(x17_1.n:Int) then
  none
 else
  some (.brk (H22,v5_23,v44_24))
def zi8 (_L:LC) (a0_0 a0_1 a0_2:Sl3) (v20_6:Int) (x8_0:ByteArray) (x8_1 s11:Sl3) (v32_15:Int) (x17_0:ByteArray) (x17_1:Sl3):(AH×Sl3×Int)→KN×Lcs:=fun (_,v5_23,v44_24)=>([kS 5 v5_23,kI 44 v44_24,kL 1 0 0,kS 4 s11,kS 18 a0_1,kI 19 (a0_1.n:Int),kI 20 v20_6,kS 30 x8_1,kI 31 (x8_1.n:Int),kI 32 v32_15,kS 42 x17_1,kI 43 (x17_1.n:Int)],[some (32,[(Sl3.v a0_0),(Sl3.v a0_1),(Sl3.v a0_2)]),some (91,[(Value.string x8_0),(Sl3.v x8_1)]),some (88,[(Value.string x17_0),(Sl3.v x17_1)])])
noncomputable def za8 (L:LC) (m:Nat) (a0_0 a0_1 a0_2:Sl3) (v20_6:Int) (x8_0:ByteArray) (x8_1 s11:Sl3):(AH×Sl3×Int)→Option (Lp (AH×Sl3×Int) (Sl3×Sl3×AH)):=fun (H13,v5_14,v32_15) =>
 if v32_15<(x8_1.n:Int) then
  Option.bind (idxA 2 x8_1 v32_15) fun p16 =>
  Option.bind (rd deS H13 (Addr.add p16 0)) fun x17_0 =>
  Option.bind (rd deSl H13 (Addr.add p16 1)) fun x17_1 =>
  Option.bind (newR 9 1 #[(Value.string x17_0)] H13) fun (s18,H19) =>
  Option.bind (appS m 9 1 16 H19 v5_14 s18) fun (s20,H21) =>
  Option.bind (L.run (zao L a0_0 a0_1 a0_2 v20_6 x8_0 x8_1 s11 v32_15 x17_0 x17_1) (H21,s20,0)) fun o=>match o with
  | .inl (H25,v5_26,_) =>
   some (.next (H25,v5_26,(IntKind.i64.wrap (v32_15+1))))
  | .inr r=>some (.ret r)
 else
  some (.brk (H13,v5_14,v32_15))
def zit (_L:LC) (_m:Nat) (a0_0 a0_1 a0_2:Sl3) (v20_6:Int) (x8_0:ByteArray) (x8_1 s11:Sl3):(AH×Sl3×Int)→KN×Lcs:=fun (_,v5_14,v32_15)=>([kS 5 v5_14,kI 32 v32_15,kL 1 0 0,kS 4 s11,kS 18 a0_1,kI 19 (a0_1.n:Int),kI 20 v20_6,kS 30 x8_1,kI 31 (x8_1.n:Int)],[some (32,[(Sl3.v a0_0),(Sl3.v a0_1),(Sl3.v a0_2)]),some (91,[(Value.string x8_0),(Sl3.v x8_1)])])
noncomputable def zag (L:LC) (m:Nat) (a0_0 a0_1 a0_2:Sl3):(AH×Sl3×Sl3×Int)→Option (Lp (AH×Sl3×Sl3×Int) (Sl3×Sl3×AH)):=fun (H3,v4_4,v5_5,v20_6) =>
 if v20_6<(a0_1.n:Int) then
  Option.bind (idxA 2 a0_1 v20_6) fun p7 =>
  Option.bind (rd deS H3 (Addr.add p7 0)) fun x8_0 =>
  Option.bind (rd deSl H3 (Addr.add p7 1)) fun x8_1 =>
  Option.bind (newR 9 1 #[(Value.string x8_0)] H3) fun (s9,H10) =>
  Option.bind (appS m 9 1 16 H10 v4_4 s9) fun (s11,H12) =>
  Option.bind (L.run (za8 L m a0_0 a0_1 a0_2 v20_6 x8_0 x8_1 s11) (H12,v5_5,0)) fun o=>match o with
  | .inl (H28,v5_29,_) =>
   some (.next (H28,s11,v5_29,(IntKind.i64.wrap (v20_6+1))))
  | .inr r=>some (.ret r)
 else
  some (.brk (H3,v4_4,v5_5,v20_6))
def zik (_L:LC) (_m:Nat) (a0_0 a0_1 a0_2:Sl3):(AH×Sl3×Sl3×Int)→KN×Lcs:=fun (_,v4_4,v5_5,v20_6)=>([kS 4 v4_4,kS 5 v5_5,kI 20 v20_6,kL 1 0 0,kS 18 a0_1,kI 19 (a0_1.n:Int)],[some (32,[(Sl3.v a0_0),(Sl3.v a0_1),(Sl3.v a0_2)])])
noncomputable def zai (_L:LC) (m:Nat) (_a0_0 _a0_1:Sl3) (a0_2 _v4_32:Sl3):(AH×Sl3×Int)→Option (Lp (AH×Sl3×Int) (Sl3×Sl3×AH)):=fun (H35,v5_36,v59_37) =>
 if v59_37<(a0_2.n:Int) then
  Option.bind (idxA 6 a0_2 v59_37) fun p38 =>
  Option.bind (rd deS H35 (Addr.add p38 0)) fun x39_0 =>
  Option.bind (rd deSl H35 (Addr.add p38 1)) fun _ =>
  Option.bind (rd (deI .i64) H35 (Addr.add p38 2)) fun _ =>
  Option.bind (rd (deI .i64) H35 (Addr.add p38 3)) fun _ =>
  Option.bind (rd deS H35 (Addr.add p38 4)) fun _ =>
  Option.bind (rd deSl H35 (Addr.add p38 5)) fun _ =>
  Option.bind (newR 9 1 #[(Value.string x39_0)] H35) fun (s40,H41) =>
  Option.bind (appS m 9 1 16 H41 v5_36 s40) fun (s42,H43) =>
  some (.next (H43,s42,(IntKind.i64.wrap (v59_37+1))))
 else
  some (.brk (H35,v5_36,v59_37))
def zig (_L:LC) (_m:Nat) (a0_0 a0_1:Sl3) (a0_2 v4_32:Sl3):(AH×Sl3×Int)→KN×Lcs:=fun (_,v5_36,v59_37)=>([kS 5 v5_36,kI 59 v59_37,kS 4 v4_32,kS 57 a0_2,kI 58 (a0_2.n:Int)],[some (32,[(Sl3.v a0_0),(Sl3.v a0_1),(Sl3.v a0_2)])])
noncomputable def zfc (L:LC) (m:Nat) (H:AH) (a0_0 a0_1 a0_2:Sl3):Option (Sl3×Sl3×AH) :=
 Option.bind (z2t L m H a0_0) fun (x1,H2) =>
 Option.bind (L.run (zag L m a0_0 a0_1 a0_2) (H2,x1,Sl3.nil,0)) fun o=>match o with
 | .inl (H31,v4_32,v5_33,_) =>
  Option.bind (L.run (zai L m a0_0 a0_1 a0_2 v4_32) (H31,v5_33,0)) fun o=>match o with
  | .inl (H44,v5_45,_) =>
   some (v4_32,v5_45,H44)
  | .inr r=>some r
 | .inr r=>some r
theorem zbi {E m H L a0_0 a0_1 a0_2 v20_6 x8_0 x8_1 s11 v32_15 x17_0 x17_1} :LoopF Tryz.prog (NE.plain 114) m E Tryz.f53 ((cfst (csnd (csnd (csnd (cfst (cfst (csnd (csnd (cfst (cfst (csnd (csnd (csnd (cfst (cfst (csnd (csnd (cfst (cfst (csnd (cfst (csnd (csnd (csnd B53))))))))))))))))))))))))) (zi8 L a0_0 a0_1 a0_2 v20_6 x8_0 x8_1 s11 v32_15 x17_0 x17_1) (fun s=>s.1) 4 z3j (z3z H) (zao L a0_0 a0_1 a0_2 v20_6 x8_0 x8_1 s11 v32_15 x17_0 x17_1):=by
 rintro ⟨H22,v5_23,v44_24⟩ o h
 unfold zao at h
 try dsimp only at h
 refine WS.sq (WS.rg (RS.mS 1 [kB 45 (decide (v44_24<(x17_1.n:Int)))] (RS.dn (WS.nxt (WS.sq ?_)))))
 rcases z0 h with ⟨hp,h⟩ | ⟨hp,h⟩
 ·refine WS.fx 45 true (decide_eq_true hp) (WS.cT ?_)
  cases h
 ·refine WS.fx 45 false (decide_eq_false hp) (WS.cF (WS.ex 4 ?_))
  cases h
  exact fun a w hs=>sqE (lsB rfl (hs.sb 3))
theorem zbm {E H L m a0_0 a0_1 a0_2 v20_6 x8_0 x8_1 s11} :LoopF Tryz.prog (NE.plain 114) m E Tryz.f53 ((cfst (csnd (csnd (csnd (cfst (cfst (csnd (csnd (cfst (cfst (csnd (cfst (csnd (csnd (csnd B53)))))))))))))))) (zit L m a0_0 a0_1 a0_2 v20_6 x8_0 x8_1 s11) (fun s=>s.1) 2 z3j (z3z H) (za8 L m a0_0 a0_1 a0_2 v20_6 x8_0 x8_1 s11):=by
 rintro ⟨H13,v5_14,v32_15⟩ o h
 unfold za8 at h
 try dsimp only at h
 refine WS.sq (WS.rg (RS.mS 1 [kB 33 (decide (v32_15<(x8_1.n:Int)))] (RS.dn (WS.nxt (WS.sq ?_)))))
 rcases z0 h with ⟨hp,h⟩ | ⟨hp,h⟩
 ·refine WS.fx 33 true (decide_eq_true hp) (WS.cT (WS.sk (WS.nxt (WS.sq (WS.bk 3 (WS.sq (WS.rg ?_)))))))
  obtain ⟨p16,hx,h⟩:=bind_some h
  refine RS.ix 34 89 88 (.tmp 30) (.tmp 32) hx ?_
  obtain ⟨x17_0,hx0,h⟩:=bind_some h
  obtain ⟨x17_1,hx1,h⟩:=bind_some h
  refine RS.la 35 88 (.tmp 34) 2 (z2 (z1 hx0 z9) (z2 (z1 hx1 z3) za)) (RS.mL 2 [kL 9 2 0] ([some (32,[(Sl3.v a0_0),(Sl3.v a0_1),(Sl3.v a0_2)]),some (91,[(Value.string x8_0),(Sl3.v x8_1)]),some (88,[(Value.string x17_0),(Sl3.v x17_1)])]) (RS.dn (WS.nxt (WS.sq (WS.rg (RS.mS 3 [kT 38 x17_0,kL 37 2 0,kS 36 v5_14] ?_))))))
  obtain ⟨⟨s18,H19⟩,hx,h⟩:=bind_some h
  try dsimp only at h
  refine RS.o (H':=H19) (some 39) (Sl3.v s18) (Abs.run_newR (by kernel_rfl) (by kernel_rfl) hx) ?_
  obtain ⟨⟨s20,H21⟩,hx,h⟩:=bind_some h
  try dsimp only at h
  refine RS.o (H':=H21) (some 40) (Sl3.v s20) (Abs.run_app (x:=.tmp 36) (y:=.tmp 39) (ts:=#[28,28]) (s:=v5_14) (z:=s18) (by kernel_rfl) (by kernel_rfl) (by kernel_rfl) (by kernel_rfl) hx) (RS.mS 1 [kS 5 s20] (RS.dn (WS.nxt (WS.sq (WS.rg (RS.mS 4 [kI 44 0,kI 43 (x17_1.n:Int),kS 42 x17_1,kL 41 2 1] (RS.dn (WS.nxt (WS.bk 4 ?_)))))))))
  obtain ⟨o,hl,h⟩:=bind_some h
  rcases o with ⟨H25,v5_26,v44_27⟩ | r
  ·try dsimp only at h
   refine WS.lI (zbi (L:=L) (E:=E) (m:=m) (H:=H)) (L.ok hl) 3 ?_
   clear hl
   refine fun a w hs=>bkE (bkN ((WS.nxt ?_ a w hs)))
   refine WS.rg (RS.mS 2 [kI 32 (IntKind.i64.wrap (v32_15+1)),kI 54 (IntKind.i64.wrap (v32_15+1))] (RS.dn ?_))
   cases h
   exact fun a w hs=>lsN rfl (hs.sb 2)
  ·try dsimp only at h
   refine WS.lR (zbi (L:=L) (E:=E) (m:=m) (H:=H)) (L.ok hl) 3 ?_
   cases h
   exact fun a w hq=>bkR (bkR (sqR (lsR rfl hq)))
 ·refine WS.fx 33 false (decide_eq_false hp) (WS.cF (WS.ex 2 ?_))
  cases h
  exact fun a w hs=>sqE (lsB rfl (hs.sb 2))
theorem zbz {E H L m a0_0 a0_1 a0_2} :LoopF Tryz.prog (NE.plain 114) m E Tryz.f53 ((cfst (csnd (cfst (csnd (csnd (csnd B53))))))) (zik L m a0_0 a0_1 a0_2) (fun s=>s.1) 0 z3j (z3z H) (zag L m a0_0 a0_1 a0_2):=by
 rintro ⟨H3,v4_4,v5_5,v20_6⟩ o h
 unfold zag at h
 try dsimp only at h
 refine WS.sq (WS.rg (RS.mS 1 [kB 21 (decide (v20_6<(a0_1.n:Int)))] (RS.dn (WS.nxt (WS.sq ?_)))))
 rcases z0 h with ⟨hp,h⟩ | ⟨hp,h⟩
 ·refine WS.fx 21 true (decide_eq_true hp) (WS.cT (WS.sk (WS.nxt (WS.sq (WS.bk 1 (WS.sq (WS.rg ?_)))))))
  obtain ⟨p7,hx,h⟩:=bind_some h
  refine RS.ix 22 29 91 (.tmp 18) (.tmp 20) hx ?_
  obtain ⟨x8_0,hx0,h⟩:=bind_some h
  obtain ⟨x8_1,hx1,h⟩:=bind_some h
  refine RS.la 23 91 (.tmp 22) 2 (z2 (z1 hx0 z9) (z2 (z1 hx1 z3) za)) (RS.mL 2 [kL 7 1 0] ([some (32,[(Sl3.v a0_0),(Sl3.v a0_1),(Sl3.v a0_2)]),some (91,[(Value.string x8_0),(Sl3.v x8_1)])]) (RS.dn (WS.nxt (WS.sq (WS.rg (RS.mS 3 [kT 26 x8_0,kL 25 1 0,kS 24 v4_4] ?_))))))
  obtain ⟨⟨s9,H10⟩,hx,h⟩:=bind_some h
  try dsimp only at h
  refine RS.o (H':=H10) (some 27) (Sl3.v s9) (Abs.run_newR (by kernel_rfl) (by kernel_rfl) hx) ?_
  obtain ⟨⟨s11,H12⟩,hx,h⟩:=bind_some h
  try dsimp only at h
  refine RS.o (H':=H12) (some 28) (Sl3.v s11) (Abs.run_app (x:=.tmp 24) (y:=.tmp 27) (ts:=#[28,28]) (s:=v4_4) (z:=s9) (by kernel_rfl) (by kernel_rfl) (by kernel_rfl) (by kernel_rfl) hx) (RS.mS 1 [kS 4 s11] (RS.dn (WS.nxt (WS.sq (WS.rg (RS.mS 4 [kI 32 0,kI 31 (x8_1.n:Int),kS 30 x8_1,kL 29 1 1] (RS.dn (WS.nxt (WS.bk 2 ?_)))))))))
  obtain ⟨o,hl,h⟩:=bind_some h
  rcases o with ⟨H28,v5_29,v32_30⟩ | r
  ·try dsimp only at h
   refine WS.lI (zbm (L:=L) (E:=E) (m:=m) (H:=H)) (L.ok hl) 2 ?_
   clear hl
   refine fun a w hs=>bkE (bkN ((WS.nxt ?_ a w hs)))
   refine WS.rg (RS.mS 2 [kI 20 (IntKind.i64.wrap (v20_6+1)),kI 55 (IntKind.i64.wrap (v20_6+1))] (RS.dn ?_))
   cases h
   exact fun a w hs=>lsN rfl (hs.sb 1)
  ·try dsimp only at h
   refine WS.lR (zbm (L:=L) (E:=E) (m:=m) (H:=H)) (L.ok hl) 2 ?_
   cases h
   exact fun a w hq=>bkR (bkR (sqR (lsR rfl hq)))
 ·refine WS.fx 21 false (decide_eq_false hp) (WS.cF (WS.ex 0 ?_))
  cases h
  exact fun a w hs=>sqE (lsB rfl (hs.sb 1))
theorem zbu {E H L m a0_0 a0_1 a0_2 v4_32} :LoopF Tryz.prog (NE.plain 114) m E Tryz.f53 ((cfst (csnd (cfst (csnd (csnd (csnd (csnd B53)))))))) (zig L m a0_0 a0_1 a0_2 v4_32) (fun s=>s.1) 6 z3j (z3z H) (zai L m a0_0 a0_1 a0_2 v4_32):=by
 rintro ⟨H35,v5_36,v59_37⟩ o h
 unfold zai at h
 try dsimp only at h
 refine WS.sq (WS.rg (RS.mS 1 [kB 60 (decide (v59_37<(a0_2.n:Int)))] (RS.dn (WS.nxt (WS.sq ?_)))))
 rcases z0 h with ⟨hp,h⟩ | ⟨hp,h⟩
 ·refine WS.fx 60 true (decide_eq_true hp) (WS.cT (WS.sk (WS.nxt (WS.sq (WS.bk 7 (WS.sq (WS.rg ?_)))))))
  obtain ⟨p38,hx,h⟩:=bind_some h
  refine RS.ix 61 30 93 (.tmp 57) (.tmp 59) hx ?_
  obtain ⟨x39_0,hx0,h⟩:=bind_some h
  obtain ⟨x39_1,hx1,h⟩:=bind_some h
  obtain ⟨x39_2,hx2,h⟩:=bind_some h
  obtain ⟨x39_3,hx3,h⟩:=bind_some h
  obtain ⟨x39_4,hx4,h⟩:=bind_some h
  obtain ⟨x39_5,hx5,h⟩:=bind_some h
  refine RS.la 62 93 (.tmp 61) 6 (z2 (z1 hx0 z9) (z2 (z1 hx1 z3) (z2 (z1 hx2 z8) (z2 (z1 hx3 z8) (z2 (z1 hx4 z9) (z2 (z1 hx5 z3) za)))))) (RS.mL 2 [kL 13 1 0] ([some (32,[(Sl3.v a0_0),(Sl3.v a0_1),(Sl3.v a0_2)]),some (93,[(Value.string x39_0),(Sl3.v x39_1),(Value.int .i64 x39_2),(Value.int .i64 x39_3),(Value.string x39_4),(Sl3.v x39_5)])]) (RS.dn (WS.nxt (WS.rg (RS.mS 3 [kT 65 x39_0,kL 64 1 0,kS 63 v5_36] ?_)))))
  obtain ⟨⟨s40,H41⟩,hx,h⟩:=bind_some h
  try dsimp only at h
  refine RS.o (H':=H41) (some 66) (Sl3.v s40) (Abs.run_newR (by kernel_rfl) (by kernel_rfl) hx) ?_
  obtain ⟨⟨s42,H43⟩,hx,h⟩:=bind_some h
  try dsimp only at h
  refine RS.o (H':=H43) (some 67) (Sl3.v s42) (Abs.run_app (x:=.tmp 63) (y:=.tmp 66) (ts:=#[28,28]) (s:=v5_36) (z:=s40) (by kernel_rfl) (by kernel_rfl) (by kernel_rfl) (by kernel_rfl) hx) (RS.mS 1 [kS 5 s42] (RS.dn ?_))
  refine fun a w hs=>bkN ((WS.nxt ?_ a w hs))
  refine WS.rg (RS.mS 2 [kI 59 (IntKind.i64.wrap (v59_37+1)),kI 68 (IntKind.i64.wrap (v59_37+1))] (RS.dn ?_))
  cases h
  exact fun a w hs=>lsN rfl (hs.sb 1)
 ·refine WS.fx 60 false (decide_eq_false hp) (WS.cF (WS.ex 6 ?_))
  cases h
  exact fun a w hs=>sqE (lsB rfl (hs.sb 1))
theorem zl6 {L:LC} {m:Nat} {H:AH} {a0_0 a0_1 a0_2:Sl3} {r:(Sl3×Sl3×AH)} (h:zfc L m H a0_0 a0_1 a0_2=some r) :
  CallS Tryz.prog (NE.plain 114) m 53 #[(Value.agg #[(Sl3.v a0_0),(Sl3.v a0_1),(Sl3.v a0_2)])] H (z3j r) (z3z H r):=by
 refine CallS.mk (args:=[(Value.agg #[(Sl3.v a0_0),(Sl3.v a0_1),(Sl3.v a0_2)])]) Tryz.func53 (B:=B53) (by kernel_rfl) (fun E _=>?_)
 unfold zfc at h
 refine WS.sq (WS.rg (RS.mL 3 [kS 3 Sl3.nil,kS 2 Sl3.nil,kL 1 0 0] ([some (32,[(Sl3.v a0_0),(Sl3.v a0_1),(Sl3.v a0_2)])]) (RS.dn (WS.nxt (WS.sq (WS.rg (RS.mS 2 [kS 15 a0_0,kL 14 0 0] ?_)))))))
 obtain ⟨⟨x1,H2⟩,hx,h⟩:=bind_some h
 try dsimp only at h
 refine RS.cl (some 16) (v:=(Sl3.v x1)) 44 #[(Sl3.v a0_0)] (z55 hx) (RS.mS 1 [kS 4 x1] (RS.dn (WS.nxt (WS.sq (WS.rg (RS.mS 1 [kS 5 Sl3.nil] (RS.dn (WS.nxt (WS.sq ?_)))))))))
 refine WS.sq (WS.rg (RS.mS 4 [kI 20 0,kI 19 (a0_1.n:Int),kS 18 a0_1,kL 17 0 1] (RS.dn (WS.nxt (WS.bk 0 ?_)))))
 obtain ⟨o,hl,h⟩:=bind_some h
 rcases o with ⟨H31,v4_32,v5_33,v20_34⟩ | r
 ·try dsimp only at h
  refine WS.lI (zbz (L:=L) (E:=E) (m:=m) (H:=H)) (L.ok hl) 1 ?_
  clear hl
  refine fun a w hs=>bkE ((WS.nxt ?_ a w hs))
  refine WS.sq (WS.sq (WS.rg (RS.mS 4 [kI 59 0,kI 58 (a0_2.n:Int),kS 57 a0_2,kL 56 0 2] (RS.dn (WS.nxt (WS.bk 6 ?_))))))
  obtain ⟨o,hl,h⟩:=bind_some h
  rcases o with ⟨H44,v5_45,v59_46⟩ | r
  ·try dsimp only at h
   refine WS.lI (zbu (L:=L) (E:=E) (m:=m) (H:=H)) (L.ok hl) 1 ?_
   clear hl
   refine fun a w hs=>bkE ((WS.nxt ?_ a w hs))
   refine WS.sq (WS.rg (RS.mS 4 [kS 3 v5_45,kS 2 v4_32,kS 70 v5_45,kS 69 v4_32] (RS.dn (WS.nxt (WS.rt ?_)))))
   cases h
   exact fun a w hs=>rtR (rS hs)
  ·try dsimp only at h
   refine WS.lR (zbu (L:=L) (E:=E) (m:=m) (H:=H)) (L.ok hl) 1 ?_
   cases h
   exact fun a w hq=>bkR (sqR (rtR hq))
 ·try dsimp only at h
  refine WS.lR (zbz (L:=L) (E:=E) (m:=m) (H:=H)) (L.ok hl) 1 ?_
  cases h
  exact fun a w hq=>bkR (sqR (rtR hq))
def zed:(Bool×AH)→Value
 | (r0,_)=>(Value.bool r0)
def zfj (_:AH):(Bool×AH)→AH:=fun r=>r.2
noncomputable def B55:Code:=(Tryz.f55.body).getD .skip
noncomputable def zah (_L:LC) (m:Nat) (a0:Sl3) (p1:Nat):(AH×Int)→Option (Lp (AH×Int) (Bool×AH)):=fun (H3,v9_4) =>
 if v9_4<(a0.n:Int) then
  Option.bind (idxA 1 a0 v9_4) fun p5 =>
  Option.bind (rd deS H3 p5) fun x6 =>
  Option.bind (lk1 Tryz.prog 172 deB H3 (some p1) (Value.string x6)) fun x7 =>
  if x7=true then
   none
  else
   Option.bind (upM Tryz.prog m 172 H3 (some p1) (Value.string x6) (Value.bool true)) fun H8 =>
   some (.next (H8,(IntKind.i64.wrap (v9_4+1))))
 else
  some (.brk (H3,v9_4))
def zi7 (_L:LC) (_m:Nat) (a0:Sl3) (p1:Nat):(AH×Int)→KN×Lcs:=fun (_,v9_4)=>([kI 9 v9_4,(3,.val (Value.map (some p1))),kS 7 a0,kI 8 (a0.n:Int)],[])
noncomputable def zb6 (L:LC) (m:Nat) (H:AH) (a0:Sl3):Option (Bool×AH) :=
 Option.bind (newM H) fun (p1,H2) =>
 Option.bind (L.run (zah L m a0 p1) (H2,0)) fun o=>match o with
 | .inl (H9,_) =>
  some (false,H9)
 | .inr r=>some r
theorem zbv {E H L m a0 p1} :LoopF Tryz.prog (NE.plain 114) m E Tryz.f55 ((cfst (csnd (cfst (csnd (csnd B55)))))) (zi7 L m a0 p1) (fun s=>s.1) 0 zed (zfj H) (zah L m a0 p1):=by
 rintro ⟨H3,v9_4⟩ o h
 unfold zah at h
 try dsimp only at h
 refine WS.sq (WS.rg (RS.mS 1 [kB 10 (decide (v9_4<(a0.n:Int)))] (RS.dn (WS.nxt (WS.sq ?_)))))
 rcases z0 h with ⟨hp,h⟩ | ⟨hp,h⟩
 ·refine WS.fx 10 true (decide_eq_true hp) (WS.cT (WS.sk (WS.nxt (WS.sq (WS.bk 1 (WS.sq (WS.rg ?_)))))))
  obtain ⟨p5,hx,h⟩:=bind_some h
  refine RS.ix 11 28 9 (.tmp 7) (.tmp 9) hx ?_
  obtain ⟨x6,hx,h⟩:=bind_some h
  refine RS.ld 12 9 (.tmp 11) (z1 hx z9) (RS.mS 1 [kT 5 x6] (RS.dn (WS.nxt (WS.sq (WS.sq (WS.rg (RS.mS 2 [kT 14 x6,(13,.val (Value.map (some p1)))] ?_)))))))
  obtain ⟨x7,hx,h⟩:=bind_some h
  refine RS.o (H':=H3) (some 15) (Value.bool x7) (Abs.run_look (t:=172) (x:=.tmp 13) (y:=.tmp 14) (mm:=(some p1)) (k:=(Value.string x6)) (by kernel_rfl) (by kernel_rfl) (by kernel_rfl) (by kernel_rfl) (lk1_eq hx z5n)) (RS.dn (WS.nxt ?_))
  rcases z0 h with ⟨hp,h⟩ | ⟨hp,h⟩
  ·refine WS.fx 15 true hp (WS.cT ?_)
   cases h
  ·refine WS.fx 15 false (b_not hp) (WS.cF (WS.sk (WS.nxt (WS.rg (RS.mS 2 [kT 17 x6,(16,.val (Value.map (some p1)))] ?_)))))
   obtain ⟨H8,hx,h⟩:=bind_some h
   refine RS.o (H':=H8) none undef (Abs.run_upM (t:=172) (x:=.tmp 16) (y:=.tmp 17) (z:=.const (Value.bool true)) (mm:=(some p1)) (k:=(Value.string x6)) (v:=(Value.bool true)) (by kernel_rfl) (by kernel_rfl) (by kernel_rfl) (by kernel_rfl) (by kernel_rfl) hx) (RS.dn ?_)
   refine fun a w hs=>bkN ((WS.nxt ?_ a w hs))
   refine WS.rg (RS.mS 2 [kI 9 (IntKind.i64.wrap (v9_4+1)),kI 18 (IntKind.i64.wrap (v9_4+1))] (RS.dn ?_))
   cases h
   exact fun a w hs=>lsN rfl (hs.sb 0)
 ·refine WS.fx 10 false (decide_eq_false hp) (WS.cF (WS.ex 0 ?_))
  cases h
  exact fun a w hs=>sqE (lsB rfl (hs.sb 0))
theorem zfl {L:LC} {m:Nat} {H:AH} {a0:Sl3} {r:(Bool×AH)} (h:zb6 L m H a0=some r) :
  CallS Tryz.prog (NE.plain 114) m 55 #[(Sl3.v a0)] H (zed r) (zfj H r):=by
 refine CallS.mk (args:=[(Sl3.v a0)]) Tryz.func55 (B:=B55) (by kernel_rfl) (fun E _=>?_)
 unfold zb6 at h
 refine WS.sq (WS.rg (RS.mS 1 [kB 2 false] (RS.dn (WS.nxt (WS.sq (WS.rg ?_))))))
 obtain ⟨⟨p1,H2⟩,hx,h⟩:=bind_some h
 try dsimp only at h
 refine RS.o (H':=H2) (some 6) (Value.map (some p1)) (Abs.run_newM (by kernel_rfl) hx) (RS.mS 1 [(3,.val (Value.map (some p1)))] (RS.dn (WS.nxt (WS.sq (WS.sq (WS.rg (RS.mS 3 [kI 9 0,kI 8 (a0.n:Int),kS 7 a0] (RS.dn (WS.nxt ?_)))))))))
 refine WS.bk 0 ?_
 obtain ⟨o,hl,h⟩:=bind_some h
 rcases o with ⟨H9,v9_10⟩ | r
 ·try dsimp only at h
  refine WS.lI (zbv (L:=L) (E:=E) (m:=m) (H:=H)) (L.ok hl) 0 ?_
  clear hl
  refine fun a w hs=>bkE ((WS.nxt ?_ a w hs))
  refine WS.sq (WS.rg (RS.mS 1 [kB 2 false] (RS.dn (WS.nxt (WS.rt ?_)))))
  cases h
  exact fun a w hs=>rtR (rS hs)
 ·try dsimp only at h
  refine WS.lR (zbv (L:=L) (E:=E) (m:=m) (H:=H)) (L.ok hl) 0 ?_
  cases h
  exact fun a w hq=>bkR (sqR (rtR hq))
def zg0:(Sl3×AH)→Value
 | (r0,_)=>(Sl3.v r0)
def zgr (_:AH):(Sl3×AH)→AH:=fun r=>r.2
noncomputable def B78:Code:=(Tryz.f78.body).getD .skip
noncomputable def z86 (_L:LC) (_m:Nat) (H:AH) (a0:Sl3):Option (Sl3×AH) :=
 if (isNilS a0)=true then
  some (Sl3.nil,H)
 else
  none
theorem z4t {L:LC} {m:Nat} {H:AH} {a0:Sl3} {r:(Sl3×AH)} (h:z86 L m H a0=some r) :
  CallS Tryz.prog (NE.plain 114) m 78 #[(Sl3.v a0)] H (zg0 r) (zgr H r):=by
 refine CallS.mk (args:=[(Sl3.v a0)]) Tryz.func78 (B:=B78) (by kernel_rfl) (fun E _=>?_)
 unfold z86 at h
 refine WS.sq (WS.rg (RS.mS 1 [kS 2 Sl3.nil] (RS.dn (WS.nxt (WS.sq (WS.sq (WS.rg (RS.mS 1 [kS 3 a0] (RS.o (H':=H) (some 4) (Value.bool (isNilS a0)) (z9d (t:=57) (e:=59) (u:=57) (x:=.tmp 3) (y:=.const (Sl3.v Sl3.nil)) (s:=a0) (by kernel_rfl) (by kernel_rfl) (by kernel_rfl) (by kernel_rfl)) ?_)))))))))
 refine RS.dn (WS.nxt ?_)
 rcases z0 h with ⟨hp,h⟩ | ⟨hp,h⟩
 ·refine WS.fx 4 true hp (WS.cT (WS.sq (WS.rg (RS.mS 1 [kS 2 Sl3.nil] (RS.dn (WS.nxt (WS.rt ?_)))))))
  cases h
  exact fun a w hs=>sqR (rtR (rS hs))
 ·refine WS.fx 4 false (b_not hp) (WS.cF ?_)
  cases h
end Go.Proofs.YthhbfmgipdbilaaGreatDoor
