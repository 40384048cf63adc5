/- Parts of the proof: an abstract interpreter of the loaded program and its soundness, printed functions, the law's own texts; part 4. No condition. -/
import Derived.Test.YtiickgadpbifbaaGreatDoorVl3
namespace Go.Proofs.YtiickgadpbifbaaGreatDoor.Aw
open Go Go.Abs
open Go.Value renaming int → vI, string → vS, pointer → vP, agg → vA, bool → vB
set_option maxRecDepth 100000
noncomputable def B39:Code:=(Tryz.f39.body).getD .skip
def K8:Value→Value
 | r0=>r0
def v9 (H:AH):Value→AH:=fun _=>H
noncomputable def z6 (L:LC) (H:AH) (a0_0:Int) (a0_1 a0_2:Bool) (a0_3:Sl3) (a0_4:Int) (a0_5:Sl3) (a0_6:ByteArray) (a0_7 a0_8 a0_9:Int) (a0_10:ByteArray) (a0_11 a0_12:Sl3) (a0_13 a0_14:Sl3):Option Value :=
 Option.bind (α:=(Int×Bool×Bool×Sl3×Int×Sl3×ByteArray×Int×Int×Int×ByteArray×Sl3×Sl3×Sl3×Sl3)) (
  if a0_0=1 then
   some (a0_0,false,a0_2,a0_3,a0_4,a0_5,a0_6,a0_7,a0_8,a0_9,a0_10,a0_11,a0_12,a0_13,a0_14)
  else
   if a0_0=2 then
    some (a0_0,a0_1,false,Sl3.nil,a0_4,a0_5,a0_6,a0_7,a0_8,a0_9,a0_10,a0_11,a0_12,a0_13,a0_14)
   else
    if a0_0=3 then
     none
    else
     if a0_0=4 then
      none
     else
      if a0_0=5 then
       some (a0_0,a0_1,a0_2,a0_3,a0_4,a0_5,a0_6,a0_7,0,0,(⟨#[]⟩:ByteArray),Sl3.nil,a0_12,Sl3.nil,Sl3.nil)
      else
       none) fun (_,w1_2,w1_3,w1_4,w1_5,w1_6,w1_7,w1_8,w1_9,w1_10,w1_11,w1_12,w1_13,w1_14,w1_15) =>
 if w1_2=true then
  none
 else
  if w1_3=true then
   none
  else
   if w1_5=0 then
    if w1_8=0 then
     if (IntKind.i64.wrap ((IntKind.i64.wrap ((IntKind.i64.wrap ((IntKind.i64.wrap ((IntKind.i64.wrap ((w1_4.n:Int)+(w1_6.n:Int)))+(w1_7.size:Int)))+(w1_13.n:Int)))+(w1_14.n:Int)))+(w1_15.n:Int)))=0 then
      (z8k L H w1_9 w1_10 w1_11 w1_12 0 0 (⟨#[]⟩:ByteArray) Sl3.nil).bind fun x16 => if x16=true then
       if a0_0=1 then
        Option.bind (gOp1 Tryz.prog (opsOf (cfst (cfst (csnd (cfst (csnd (cfst (csnd (csnd (csnd (csnd (csnd B39)))))))))))) 2 [(92,.val (vB a0_1))] deV H) fun x17 => some x17
       else
        if a0_0=2 then
         Option.bind (gOp1 Tryz.prog (opsOf (cfst (cfst (csnd (csnd (csnd (cfst (csnd (cfst (csnd (csnd (csnd (csnd (csnd B39)))))))))))))) 3 [(98,.val (vA #[(vB a0_2),(Sl3.v a0_3)]))] deV H) fun x18 => some x18
        else
         if a0_0=3 then
          none
         else
          if a0_0=4 then
           none
          else
           if a0_0=5 then
            Option.bind (gOp1 Tryz.prog (opsOf (cfst (cfst (csnd (csnd (csnd (csnd (csnd (csnd (csnd (csnd (csnd (cfst (csnd (cfst (csnd (csnd (csnd (csnd (csnd B39)))))))))))))))))))) 7 [(122,.val (vA #[(vI .i64 a0_8),(vI .i64 a0_9),(vS a0_10),(Sl3.v a0_11),(Sl3.v a0_13),(Sl3.v a0_14)]))] deV H) fun x19 => some x19
           else
            none
      else
       none
     else
      none
    else
     none
   else
    none
theorem z2j {L:LC} {m:Nat} {H:AH} {a0_0:Int} {a0_1 a0_2:Bool} {a0_3:Sl3} {a0_4:Int} {a0_5:Sl3} {a0_6:ByteArray} {a0_7 a0_8 a0_9:Int} {a0_10:ByteArray} {a0_11 a0_12:Sl3} {a0_13 a0_14:Sl3} {r:Value} (h:z6 L H a0_0 a0_1 a0_2 a0_3 a0_4 a0_5 a0_6 a0_7 a0_8 a0_9 a0_10 a0_11 a0_12 a0_13 a0_14=some r) :
  CallS Tryz.prog (NE.plain 99) m 39 #[(vA #[(vI .i64 a0_0),(vB a0_1),(vB a0_2),(Sl3.v a0_3),(vI .i64 a0_4),(Sl3.v a0_5),(vS a0_6),(vI .i64 a0_7),(vI .i64 a0_8),(vI .i64 a0_9),(vS a0_10),(Sl3.v a0_11),(Sl3.v a0_12),(Sl3.v a0_13),(Sl3.v a0_14)])] H (K8 r) (v9 H r):=by
 refine CallS.mk (args:=[(vA #[(vI .i64 a0_0),(vB a0_1),(vB a0_2),(Sl3.v a0_3),(vI .i64 a0_4),(Sl3.v a0_5),(vS a0_6),(vI .i64 a0_7),(vI .i64 a0_8),(vI .i64 a0_9),(vS a0_10),(Sl3.v a0_11),(Sl3.v a0_12),(Sl3.v a0_13),(Sl3.v a0_14)])]) Tryz.func39 (B:=B39) (by kernel_rfl) (fun E _=>?_);unfold z6 at h;refine t0 (A0 (O0 2 [(2,.val Value.nilIface),kL 1 0 0] ([some (36,[(vI .i64 a0_0),(vB a0_1),(vB a0_2),(Sl3.v a0_3),(vI .i64 a0_4),(Sl3.v a0_5),(vS a0_6),(vI .i64 a0_7),(vI .i64 a0_8),(vI .i64 a0_9),(vS a0_10),(Sl3.v a0_11),(Sl3.v a0_12),(Sl3.v a0_13),(Sl3.v a0_14)])]) (u0 (m0 (t0 (A0 (O0 3 [kL 3 1 0,kA 5 #[(vI .i64 a0_0),(vB a0_1),(vB a0_2),(Sl3.v a0_3),(vI .i64 a0_4),(Sl3.v a0_5),(vS a0_6),(vI .i64 a0_7),(vI .i64 a0_8),(vI .i64 a0_9),(vS a0_10),(Sl3.v a0_11),(Sl3.v a0_12),(Sl3.v a0_13),(Sl3.v a0_14)]] ([some (36,[(vI .i64 a0_0),(vB a0_1),(vB a0_2),(Sl3.v a0_3),(vI .i64 a0_4),(Sl3.v a0_5),(vS a0_6),(vI .i64 a0_7),(vI .i64 a0_8),(vI .i64 a0_9),(vS a0_10),(Sl3.v a0_11),(Sl3.v a0_12),(Sl3.v a0_13),(Sl3.v a0_14)]),some (36,[(vI .i64 a0_0),(vB a0_1),(vB a0_2),(Sl3.v a0_3),(vI .i64 a0_4),(Sl3.v a0_5),(vS a0_6),(vI .i64 a0_7),(vI .i64 a0_8),(vI .i64 a0_9),(vS a0_10),(Sl3.v a0_11),(Sl3.v a0_12),(Sl3.v a0_13),(Sl3.v a0_14)])]) (u0 (m0 ?_)))))))));obtain ⟨⟨w1_1,w1_2,w1_3,w1_4,w1_5,w1_6,w1_7,w1_8,w1_9,w1_10,w1_11,w1_12,w1_13,w1_14,w1_15⟩,hx,h⟩:=bind_some h;try dsimp only at h
 refine t0 ?_;refine WS.join ([kL 1 0 0,kL 3 1 0]) ([some (36,[(vI .i64 a0_0),(vB a0_1),(vB a0_2),(Sl3.v a0_3),(vI .i64 a0_4),(Sl3.v a0_5),(vS a0_6),(vI .i64 a0_7),(vI .i64 a0_8),(vI .i64 a0_9),(vS a0_10),(Sl3.v a0_11),(Sl3.v a0_12),(Sl3.v a0_13),(Sl3.v a0_14)]),some (36,[(vI .i64 w1_1),(vB w1_2),(vB w1_3),(Sl3.v w1_4),(vI .i64 w1_5),(Sl3.v w1_6),(vS w1_7),(vI .i64 w1_8),(vI .i64 w1_9),(vI .i64 w1_10),(vS w1_11),(Sl3.v w1_12),(Sl3.v w1_13),(Sl3.v w1_14),(Sl3.v w1_15)])]) H ?_ (fun a w hs=>m0 ?_ a w hs)
 ·clear h; rename _=>h;refine t0 (A0 (g0 2 [kI 7 a0_0,kL 6 0 0] (u0 (m0 (P0 0 (t0 (A0 (g0 2 [kB 8 (decide (a0_0=1)),kB 9 (decide (a0_0=1))] (u0 ?_)))))))));refine m0 ?_;rcases J1 h with ⟨hp,h⟩ | ⟨hp,h⟩
  ·refine B0 8 true (decide_eq_true hp) (E0 (A0 (O0 2 [kL 10 1 1] ([some (36,[(vI .i64 a0_0),(vB a0_1),(vB a0_2),(Sl3.v a0_3),(vI .i64 a0_4),(Sl3.v a0_5),(vS a0_6),(vI .i64 a0_7),(vI .i64 a0_8),(vI .i64 a0_9),(vS a0_10),(Sl3.v a0_11),(Sl3.v a0_12),(Sl3.v a0_13),(Sl3.v a0_14)]),some (36,[(vI .i64 a0_0),(vB false),(vB a0_2),(Sl3.v a0_3),(vI .i64 a0_4),(Sl3.v a0_5),(vS a0_6),(vI .i64 a0_7),(vI .i64 a0_8),(vI .i64 a0_9),(vS a0_10),(Sl3.v a0_11),(Sl3.v a0_12),(Sl3.v a0_13),(Sl3.v a0_14)])]) (u0 ?_))));cases h;exact fun a w hs=>bkN ((jsN (hs.sb 2)))
  ·refine B0 8 false (decide_eq_false hp) (D0 (t0 (A0 (g0 2 [kB 11 (decide (a0_0=2)),kB 12 (decide (a0_0=2))] (u0 (m0 ?_))))));rcases J1 h with ⟨hp,h⟩ | ⟨hp,h⟩
   ·refine B0 11 true (decide_eq_true hp) (E0 (A0 (O0 3 [kL 14 1 2,kA 13 #[(vB false),(Sl3.v Sl3.nil)]] ([some (36,[(vI .i64 a0_0),(vB a0_1),(vB a0_2),(Sl3.v a0_3),(vI .i64 a0_4),(Sl3.v a0_5),(vS a0_6),(vI .i64 a0_7),(vI .i64 a0_8),(vI .i64 a0_9),(vS a0_10),(Sl3.v a0_11),(Sl3.v a0_12),(Sl3.v a0_13),(Sl3.v a0_14)]),some (36,[(vI .i64 a0_0),(vB a0_1),(vB false),(Sl3.v Sl3.nil),(vI .i64 a0_4),(Sl3.v a0_5),(vS a0_6),(vI .i64 a0_7),(vI .i64 a0_8),(vI .i64 a0_9),(vS a0_10),(Sl3.v a0_11),(Sl3.v a0_12),(Sl3.v a0_13),(Sl3.v a0_14)])]) (u0 ?_))));cases h;exact fun a w hs=>bkN ((jsN (hs.sb 2)))
   ·refine B0 11 false (decide_eq_false hp) (D0 (t0 (A0 (g0 2 [kB 15 (decide (a0_0=3)),kB 16 (decide (a0_0=3))] (u0 (m0 ?_))))));rcases J1 h with ⟨hp,h⟩ | ⟨hp,h⟩
    ·refine B0 15 true (decide_eq_true hp) (E0 ?_);cases h
    ·refine B0 15 false (decide_eq_false hp) (D0 (t0 (A0 (g0 2 [kB 19 (decide (a0_0=4)),kB 20 (decide (a0_0=4))] (u0 (m0 ?_))))));rcases J1 h with ⟨hp,h⟩ | ⟨hp,h⟩
     ·refine B0 19 true (decide_eq_true hp) (E0 ?_);cases h
     ·refine B0 19 false (decide_eq_false hp) (D0 (t0 (A0 (g0 2 [kB 23 (decide (a0_0=5)),kB 24 (decide (a0_0=5))] (u0 (m0 ?_))))));rcases J1 h with ⟨hp,h⟩ | ⟨hp,h⟩
      ·refine B0 23 true (decide_eq_true hp) (E0 (A0 (O0 7 [kL 28 1 14,kL 27 1 13,kL 26 1 8,kA 25 #[(vI .i64 0),(vI .i64 0),(vS (⟨#[]⟩:ByteArray)),(Sl3.v Sl3.nil)]] ([some (36,[(vI .i64 a0_0),(vB a0_1),(vB a0_2),(Sl3.v a0_3),(vI .i64 a0_4),(Sl3.v a0_5),(vS a0_6),(vI .i64 a0_7),(vI .i64 a0_8),(vI .i64 a0_9),(vS a0_10),(Sl3.v a0_11),(Sl3.v a0_12),(Sl3.v a0_13),(Sl3.v a0_14)]),some (36,[(vI .i64 a0_0),(vB a0_1),(vB a0_2),(Sl3.v a0_3),(vI .i64 a0_4),(Sl3.v a0_5),(vS a0_6),(vI .i64 a0_7),(vI .i64 0),(vI .i64 0),(vS (⟨#[]⟩:ByteArray)),(Sl3.v Sl3.nil),(Sl3.v a0_12),(Sl3.v Sl3.nil),(Sl3.v Sl3.nil)])]) (u0 ?_))));cases h;exact fun a w hs=>bkN ((jsN (hs.sb 2)))
      ·refine B0 23 false (decide_eq_false hp) (D0 ?_);cases h
 ·clear hx;refine t0 (A0 (g0 26 [kI 4 (IntKind.i64.wrap ((IntKind.i64.wrap ((IntKind.i64.wrap ((IntKind.i64.wrap ((IntKind.i64.wrap ((w1_4.n:Int)+(w1_6.n:Int)))+(w1_7.size:Int)))+(w1_13.n:Int)))+(w1_14.n:Int)))+(w1_15.n:Int))),kI 57 (IntKind.i64.wrap ((IntKind.i64.wrap ((IntKind.i64.wrap ((IntKind.i64.wrap ((IntKind.i64.wrap ((w1_4.n:Int)+(w1_6.n:Int)))+(w1_7.size:Int)))+(w1_13.n:Int)))+(w1_14.n:Int)))+(w1_15.n:Int))),kI 56 (w1_15.n:Int),kS 55 w1_15,kL 54 1 14,kI 53 (IntKind.i64.wrap ((IntKind.i64.wrap ((IntKind.i64.wrap ((IntKind.i64.wrap ((w1_4.n:Int)+(w1_6.n:Int)))+(w1_7.size:Int)))+(w1_13.n:Int)))+(w1_14.n:Int))),kI 52 (w1_14.n:Int),kS 51 w1_14,kL 50 1 13,kI 49 (IntKind.i64.wrap ((IntKind.i64.wrap ((IntKind.i64.wrap ((w1_4.n:Int)+(w1_6.n:Int)))+(w1_7.size:Int)))+(w1_13.n:Int))),kI 48 (w1_13.n:Int),kS 47 w1_13,kL 46 1 12,kI 45 (IntKind.i64.wrap ((IntKind.i64.wrap ((w1_4.n:Int)+(w1_6.n:Int)))+(w1_7.size:Int))),kI 44 (w1_7.size:Int),kT 43 w1_7,kL 42 1 6,kI 41 (IntKind.i64.wrap ((w1_4.n:Int)+(w1_6.n:Int))),kI 40 (w1_6.n:Int),kS 39 w1_6,kL 38 1 5,kL 37 1 4,kI 36 (w1_4.n:Int),kS 35 w1_4,kL 34 1 3,kL 33 1 2] (u0 (m0 (t0 (t0 (A0 (g0 3 [kB 60 w1_2,kB 59 w1_2,kL 58 1 1] ?_))))))));rcases J1 h with ⟨hp,h⟩ | ⟨hp,h⟩
  ·refine F0 60 true hp ?_;cases h
  ·refine F0 60 false (b_not hp) (g0 5 [kB 65 w1_3,kB 64 w1_3,kB 63 w1_3,kL 62 1 2,kL 61 1 2] ?_);rcases J1 h with ⟨hp,h⟩ | ⟨hp,h⟩
   ·refine F0 65 true hp ?_;cases h
   ·refine F0 65 false (b_not hp) (g0 6 [kB 71 (!decide (w1_5=0)),kB 70 (!decide (w1_5=0)),kB 69 (!decide (w1_5=0)),kI 68 w1_5,kL 67 1 4,kL 66 1 4] ?_);rcases J1 h with ⟨hp,h⟩ | ⟨hp,h⟩
    ·refine F0 71 false (C2 hp) (g0 5 [kB 76 (!decide (w1_8=0)),kB 75 (!decide (w1_8=0)),kB 74 (!decide (w1_8=0)),kI 73 w1_8,kL 72 1 7] ?_);rcases J1 h with ⟨hp,h⟩ | ⟨hp,h⟩
     ·refine F0 76 false (C2 hp) (g0 4 [kB 80 (!decide ((IntKind.i64.wrap ((IntKind.i64.wrap ((IntKind.i64.wrap ((IntKind.i64.wrap ((IntKind.i64.wrap ((w1_4.n:Int)+(w1_6.n:Int)))+(w1_7.size:Int)))+(w1_13.n:Int)))+(w1_14.n:Int)))+(w1_15.n:Int)))=0)),kB 79 (!decide ((IntKind.i64.wrap ((IntKind.i64.wrap ((IntKind.i64.wrap ((IntKind.i64.wrap ((IntKind.i64.wrap ((w1_4.n:Int)+(w1_6.n:Int)))+(w1_7.size:Int)))+(w1_13.n:Int)))+(w1_14.n:Int)))+(w1_15.n:Int)))=0)),kB 78 (!decide ((IntKind.i64.wrap ((IntKind.i64.wrap ((IntKind.i64.wrap ((IntKind.i64.wrap ((IntKind.i64.wrap ((w1_4.n:Int)+(w1_6.n:Int)))+(w1_7.size:Int)))+(w1_13.n:Int)))+(w1_14.n:Int)))+(w1_15.n:Int)))=0)),kI 77 (IntKind.i64.wrap ((IntKind.i64.wrap ((IntKind.i64.wrap ((IntKind.i64.wrap ((IntKind.i64.wrap ((w1_4.n:Int)+(w1_6.n:Int)))+(w1_7.size:Int)))+(w1_13.n:Int)))+(w1_14.n:Int)))+(w1_15.n:Int)))] ?_);rcases J1 h with ⟨hp,h⟩ | ⟨hp,h⟩
      ·refine F0 80 false (C2 hp) (g0 3 [kA 83 #[(vI .i64 0),(vI .i64 0),(vS (⟨#[]⟩:ByteArray)),(Sl3.v Sl3.nil)],kA 82 #[(vI .i64 w1_9),(vI .i64 w1_10),(vS w1_11),(Sl3.v w1_12)],kL 81 1 8] ?_);obtain ⟨x16,hx,h⟩:=bind_some h;refine RS.cl (some 84) (v:=(vB x16)) 66 _ (z9e hx) (g0 2 [kB 86 (!x16),kB 85 (!x16)] (u0 (m0 ?_)));rcases J1 h with ⟨hp,h⟩ | ⟨hp,h⟩
       ·refine B0 86 false (nb_not hp) (D0 (M0 (m0 (t0 (t0 (A0 (g0 2 [kI 88 a0_0,kL 87 0 0] (u0 (m0 ?_)))))))));refine P0 1 (t0 (A0 (g0 2 [kB 89 (decide (a0_0=1)),kB 90 (decide (a0_0=1))] (u0 (m0 ?_)))));rcases J1 h with ⟨hp,h⟩ | ⟨hp,h⟩
        ·refine B0 89 true (decide_eq_true hp) (E0 (t0 (A0 (g0 2 [kB 92 a0_1,kL 91 0 1] ?_))));obtain ⟨x17,hx,h⟩:=bind_some h;refine T0 (H':=H) (some 93) x17 (z4r hx zcj (by kernel_rfl) (by kernel_rfl)) (g0 1 [(2,.val x17)] (u0 (m0 (C0 ?_))));cases h;exact fun a w hs=>bkR (sqR (rtR (rS hs)))
        ·refine B0 89 false (decide_eq_false hp) (D0 (t0 (A0 (g0 2 [kB 94 (decide (a0_0=2)),kB 95 (decide (a0_0=2))] (u0 (m0 ?_))))));rcases J1 h with ⟨hp,h⟩ | ⟨hp,h⟩
         ·refine B0 94 true (decide_eq_true hp) (E0 (t0 (A0 (g0 3 [kA 98 #[(vB a0_2),(Sl3.v a0_3)],kA 97 #[(vB a0_2),(Sl3.v a0_3)],kL 96 0 2] ?_))));obtain ⟨x18,hx,h⟩:=bind_some h;refine T0 (H':=H) (some 99) x18 (z4r hx zcj (by kernel_rfl) (by kernel_rfl)) (g0 1 [(2,.val x18)] (u0 (m0 (C0 ?_))));cases h;exact fun a w hs=>bkR (sqR (rtR (rS hs)))
         ·refine B0 94 false (decide_eq_false hp) (D0 (t0 (A0 (g0 2 [kB 100 (decide (a0_0=3)),kB 101 (decide (a0_0=3))] (u0 (m0 ?_))))));rcases J1 h with ⟨hp,h⟩ | ⟨hp,h⟩
          ·refine B0 100 true (decide_eq_true hp) (E0 ?_);cases h
          ·refine B0 100 false (decide_eq_false hp) (D0 (t0 (A0 (g0 2 [kB 106 (decide (a0_0=4)),kB 107 (decide (a0_0=4))] (u0 (m0 ?_))))));rcases J1 h with ⟨hp,h⟩ | ⟨hp,h⟩
           ·refine B0 106 true (decide_eq_true hp) (E0 ?_);cases h
           ·refine B0 106 false (decide_eq_false hp) (D0 (t0 (A0 (g0 2 [kB 114 (decide (a0_0=5)),kB 115 (decide (a0_0=5))] (u0 (m0 ?_))))));rcases J1 h with ⟨hp,h⟩ | ⟨hp,h⟩
            ·refine B0 114 true (decide_eq_true hp) (E0 (t0 (A0 (g0 7 [kA 122 #[(vI .i64 a0_8),(vI .i64 a0_9),(vS a0_10),(Sl3.v a0_11),(Sl3.v a0_13),(Sl3.v a0_14)],kS 121 a0_14,kL 120 0 14,kS 119 a0_13,kL 118 0 13,kA 117 #[(vI .i64 a0_8),(vI .i64 a0_9),(vS a0_10),(Sl3.v a0_11)],kL 116 0 8] ?_))));obtain ⟨x19,hx,h⟩:=bind_some h;refine T0 (H':=H) (some 123) x19 (z4r hx zcj (by kernel_rfl) (by kernel_rfl)) (g0 1 [(2,.val x19)] (u0 (m0 (C0 ?_))));cases h;exact fun a w hs=>bkR (sqR (rtR (rS hs)))
            ·refine B0 114 false (decide_eq_false hp) (D0 ?_);cases h
       ·refine B0 86 true (Q4 hp) (E0 ?_);cases h
      ·refine F0 80 true (A2 hp) ?_;cases h
     ·refine F0 76 true (A2 hp) ?_;cases h
    ·refine F0 71 true (A2 hp) ?_;cases h
noncomputable def B31:Code:=(Tryz.f31.body).getD .skip
def C5:Sl3→Value
 | r0=>(Sl3.v r0)
def P5 (H:AH):Sl3→AH:=fun _=>H
noncomputable def Q2 (_L:LC) (H:AH) (a0:Sl3):Int→Option (Lp Int Sl3):=fun v3_1 =>
 Option.bind (α:=Bool) (
  if v3_1 > 0 then
   (idxA 1 a0 (IntKind.i64.wrap (v3_1 - 1))).bind fun p3 => (rd (deI .u64) H p3).bind fun x4 => some (decide (x4=0))
  else
   some false) fun v15_2 =>
 if v15_2=true then
  some (.next (IntKind.i64.wrap (v3_1 - 1)))
 else
  some (.brk v3_1)
def K7 (_L:LC) (_H:AH) (a0:Sl3):Int→KN×Lcs:=fun v3_1=>([kI 3 v3_1,kS 0 a0],[])
noncomputable def V3 (L:LC) (H:AH) (a0:Sl3):Option Sl3 :=
 (L.run (Q2 L H a0) (a0.n:Int)).bind fun o=>match o with
 | .inl v3_5 =>
  (slc 1 H a0 none (some v3_5) none).bind fun s6 => some s6
 | .inr r=>some r
theorem N4 {E m L H a0} :LoopF Tryz.prog (NE.plain 99) m E Tryz.f31 ((cfst (cfst (csnd (csnd B31))))) (K7 L H a0) (fun _=>H) 0 C5 (P5 H) (Q2 L H a0):=by
 rintro v3_1 o h
 unfold Q2 at h;try dsimp only at h
 refine t0 ?_;obtain ⟨v15_2,hx,h⟩:=bind_some h;refine t0 ?_;refine WS.join ([kB 15 v15_2,kS 0 a0,kI 3 v3_1]) ([]) H ?_ (fun a w hs=>m0 ?_ a w hs)
 ·clear h; rename _=>h;refine A0 (g0 3 [kB 8 (decide (v3_1 > 0)),kB 7 (decide (v3_1 > 0)),kI 6 v3_1] ?_);rcases J1 h with ⟨hp,h⟩ | ⟨hp,h⟩
  ·refine F0 8 true (decide_eq_true hp) (g0 3 [kI 11 (IntKind.i64.wrap (v3_1 - 1)),kI 10 v3_1,kS 9 a0] ?_);obtain ⟨p3,hx,h⟩:=bind_some h;refine RS.ix 12 23 53 (.tmp 9) (.tmp 11) hx ?_;obtain ⟨x4,hx,h⟩:=bind_some h;refine D1 13 53 (.tmp 12) (I1 hx N1) (g0 2 [kB 15 (decide (x4=0)),kB 14 (decide (x4=0))] (u0 ?_));cases h;exact fun a w hs=>(jsN (hs.sb 0))
  ·refine F0 8 false (decide_eq_false hp) (g0 7 [kB 15 false,kU 14,kU 13,kU 12,kU 11,kU 10,kU 9] (u0 ?_));cases h;exact fun a w hs=>(jsN (hs.sb 0))
 ·clear hx;rcases J1 h with ⟨hp,h⟩ | ⟨hp,h⟩
  ·refine B0 15 true hp (E0 (M0 (m0 (P0 1 (A0 (g0 3 [kI 3 (IntKind.i64.wrap (v3_1 - 1)),kI 17 (IntKind.i64.wrap (v3_1 - 1)),kI 16 v3_1] (u0 ?_)))))));cases h;exact fun a w hs=>bkN (lsN rfl (hs.sb 0))
  ·refine B0 15 false (b_not hp) (D0 (WS.ex 0 ?_));cases h;exact fun a w hs=>sqE (lsB rfl (hs.sb 0))
theorem X6 {L:LC} {m:Nat} {H:AH} {a0 r:Sl3} (h:V3 L H a0=some r) :
  CallS Tryz.prog (NE.plain 99) m 31 #[(Sl3.v a0)] H (C5 r) (P5 H r):=by
 refine CallS.mk (args:=[(Sl3.v a0)]) Tryz.func31 (B:=B31) (by kernel_rfl) (fun E _=>?_);unfold V3 at h;refine t0 (A0 (g0 1 [kS 2 Sl3.nil] (u0 (m0 (t0 (A0 (g0 3 [kI 3 (a0.n:Int),kI 5 (a0.n:Int),kS 4 a0] (u0 (m0 ?_)))))))));refine t0 (P0 0 ?_);obtain ⟨o,hl,h⟩:=bind_some h;rcases o with v3_5 | r
 ·try dsimp only at h
  refine Y0 (N4 (L:=L) (E:=E) (m:=m) (H:=H)) (L.ok hl) 0 ?_;clear hl;refine fun a w hs=>bkE ((m0 ?_ a w hs));refine t0 (A0 (g0 2 [kI 19 v3_5,kS 18 a0] ?_));obtain ⟨s6,hx,h⟩:=bind_some h;refine T0 (H':=H) (some 20) (Sl3.v s6) (Abs.run_slice (t:=23) (e:=53) (x:=.tmp 18) (lo:=none) (hi:=(some (.tmp 19))) (mx:=none) (s:=a0) (k1:=.i64) (k2:=.i64) (k3:=.i64) (by kernel_rfl) (by kernel_rfl) (by kernel_rfl) (by kernel_rfl) (by kernel_rfl) (by kernel_rfl) (by kernel_rfl) hx) (g0 1 [kS 2 s6] (u0 (m0 (C0 ?_))));cases h;exact fun a w hs=>rtR (rS hs)
 ·try dsimp only at h
  refine X0 (N4 (L:=L) (E:=E) (m:=m) (H:=H)) (L.ok hl) 0 ?_;cases h;exact fun a w hq=>bkR (sqR (rtR hq))
noncomputable def B22:Code:=(Tryz.f22.body).getD .skip
def z47:(Sl3×Bool)→Value
 | (r0,r1)=>(vA #[(Sl3.v r0),(vB r1)])
def z5u (H:AH):(Sl3×Bool)→AH:=fun _=>H
noncomputable def t4 (L:LC) (H:AH) (a0_0:Bool) (a0_1:Sl3):Option (Sl3×Bool) :=
 (V3 L H a0_1).bind fun x1 => if a0_0=true then
  none
 else
  some (x1,false)
theorem G5 {L:LC} {m:Nat} {H:AH} {a0_0:Bool} {a0_1:Sl3} {r:(Sl3×Bool)} (h:t4 L H a0_0 a0_1=some r) :
  CallS Tryz.prog (NE.plain 99) m 22 #[(vA #[(vB a0_0),(Sl3.v a0_1)])] H (z47 r) (z5u H r):=by
 refine CallS.mk (args:=[(vA #[(vB a0_0),(Sl3.v a0_1)])]) Tryz.func22 (B:=B22) (by kernel_rfl) (fun E _=>?_);unfold t4 at h;refine t0 (A0 (O0 2 [kL 2 1 0,kL 1 0 0] ([some (26,[(vB a0_0),(Sl3.v a0_1)]),some (68,[(Sl3.v Sl3.nil),(vB false)])]) (u0 (m0 (t0 (A0 (g0 2 [kS 5 a0_1,kL 4 0 1] ?_)))))));obtain ⟨x1,hx,h⟩:=bind_some h;refine RS.cl (some 6) (v:=(Sl3.v x1)) 31 _ (X6 hx) (g0 1 [kS 3 x1] (u0 (m0 (t0 (A0 (g0 4 [kB 10 a0_0,kB 9 a0_0,kL 8 0 0,kS 7 x1] ?_))))));rcases J1 h with ⟨hp,h⟩ | ⟨hp,h⟩
 ·refine F0 10 true hp ?_;cases h
 ·refine F0 10 false (b_not hp) (O0 6 [kA 15 #[(Sl3.v x1),(vB false)],kB 14 false,kU 13,kU 12,kU 11] ([some (26,[(vB a0_0),(Sl3.v a0_1)]),some (68,[(Sl3.v x1),(vB false)])]) (u0 (m0 (C0 ?_))));cases h;exact fun a w hs=>rtR (rS hs)
noncomputable def B102:Code:=(Tryz.f102.body).getD .skip
def z6r:(Sl3×AH)→Value
 | (r0,_)=>(Sl3.v r0)
def z8c (_:AH):(Sl3×AH)→AH:=fun r=>r.2
noncomputable def O9 (_L:LC) (m:Nat) (H:AH) (a0:Sl3):Option (Sl3×AH) :=
 if (isNilS a0)=true then
  none
 else
  (newR 53 0 #[] H).bind fun (s1,H2) => (appS m 53 1 8 H2 s1 a0).bind fun (s3,H4) => some (s3,H4)
theorem z16 {L:LC} {m:Nat} {H:AH} {a0:Sl3} {r:(Sl3×AH)} (h:O9 L m H a0=some r) :
  CallS Tryz.prog (NE.plain 99) m 102 #[(Sl3.v a0)] H (z6r r) (z8c H r):=by
 refine CallS.mk (args:=[(Sl3.v a0)]) Tryz.func102 (B:=B102) (by kernel_rfl) (fun E _=>?_);unfold O9 at h;refine t0 (A0 (g0 1 [kS 2 Sl3.nil] (u0 (m0 (t0 (t0 (A0 (g0 1 [kS 3 a0] (T0 (H':=H) (some 4) (vB (isNilS a0)) (zac (t:=24) (e:=53) (u:=24) (x:=.tmp 3) (y:=.const (Sl3.v Sl3.nil)) (s:=a0) (by kernel_rfl) (by kernel_rfl) (by kernel_rfl) (by kernel_rfl)) ?_)))))))));refine u0 (m0 ?_);rcases J1 h with ⟨hp,h⟩ | ⟨hp,h⟩
 ·refine B0 4 true hp (E0 ?_);cases h
 ·refine B0 4 false (b_not hp) (D0 (M0 (m0 (t0 (A0 ?_)))));obtain ⟨⟨s1,H2⟩,hx,h⟩:=bind_some h;try dsimp only at h
  refine T0 (H':=H2) (some 5) (Sl3.v s1) (Abs.run_newR (by kernel_rfl) (by kernel_rfl) hx) (g0 1 [kS 6 a0] ?_);obtain ⟨⟨s3,H4⟩,hx,h⟩:=bind_some h;try dsimp only at h
  refine T0 (H':=H4) (some 7) (Sl3.v s3) (Abs.run_app (x:=.tmp 5) (y:=.tmp 6) (ts:=#[24,24]) (s:=s1) (z:=a0) (by kernel_rfl) (by kernel_rfl) (by kernel_rfl) (by kernel_rfl) hx) (g0 1 [kS 2 s3] (u0 (m0 (C0 ?_))));cases h;exact fun a w hs=>rtR (rS hs)
noncomputable def B75:Code:=(Tryz.f75.body).getD .skip
def z7d:(Bool×Sl3×AH)→Value
 | (r0,r1,_)=>(vA #[(vB r0),(Sl3.v r1)])
def z85 (_:AH):(Bool×Sl3×AH)→AH:=fun r=>r.2.2
noncomputable def d7 (L:LC) (m:Nat) (H:AH) (a0_0:Sl3) (a0_1:Bool):Option (Bool×Sl3×AH) :=
 (O9 L (Nat.max m H.next) H a0_0).bind fun (x1,H2) => some (a0_1,x1,H2)
theorem z17 {L:LC} {m:Nat} {H:AH} {a0_0:Sl3} {a0_1:Bool} {r:(Bool×Sl3×AH)} (h:d7 L m H a0_0 a0_1=some r) :
  CallS Tryz.prog (NE.plain 99) m 75 #[(vA #[(Sl3.v a0_0),(vB a0_1)])] H (z7d r) (z85 H r):=by
 refine CallS.mk (args:=[(vA #[(Sl3.v a0_0),(vB a0_1)])]) Tryz.func75 (B:=B75) (by kernel_rfl) (fun E _=>?_);unfold d7 at h;refine t0 (A0 (O0 2 [kL 2 1 0,kL 1 0 0] ([some (68,[(Sl3.v a0_0),(vB a0_1)]),some (26,[(vB false),(Sl3.v Sl3.nil)])]) (u0 (m0 (t0 ?_)))));obtain ⟨⟨x1,H2⟩,hx_4,h⟩:=bind_some h;try dsimp only at h
 refine WS.toone ([kL 2 1 0]) ([some (68,[(Sl3.v a0_0),(vB a0_1)]),some (26,[(vB a0_1),(Sl3.v x1)])]) H2 ?_ ?_
 ·clear h;refine C1 [2,3] [0,1,0,4,12,31,63] 7 (fun hcl=>?_);refine Q0 2 (some 5) (.loc 0 0) (Q0 3 (some 6) (.val (Sl3.v a0_0)) (DA.restart [0,2,3] (by kernel_rfl) (Q0 0 (some 3) (.loc 0 1) ?_)));refine R0 1 4 (by kernel_rfl) ?_ ?_
  ·refine I0 1 (some 4) (.val (vB a0_1)) ([some (68,[(Sl3.v a0_0),(vB a0_1)]),some (26,[(vB false),(Sl3.v Sl3.nil)])]) true (DA.on 4 (A1 4 (some 7) false (v:=(Sl3.v x1)) 102 #[(Sl3.v a0_0)] (z16 hx_4) (DA.on 5 (V0 (H':=H2) 5 (some 8) (vA #[(vB a0_1),(Sl3.v x1)]) (by kernel_rfl) (DA.on 6 (I0 6 none (.val undef) ([some (68,[(Sl3.v a0_0),(vB a0_1)]),some (26,[(vB a0_1),(Sl3.v x1)])]) false (K0 ?_)))))));exact fun a w hs=>jsN (hs.sb 2)
  ·refine A1 4 (some 7) true (v:=(Sl3.v x1)) 102 _ (z16 hx_4) (DA.on 1 (I0 1 (some 4) (.val (vB a0_1)) ([some (68,[(Sl3.v a0_0),(vB a0_1)]),some (26,[(vB false),(Sl3.v Sl3.nil)])]) false (DA.on 5 (V0 (H':=H2) 5 (some 8) (vA #[(vB a0_1),(Sl3.v x1)]) (by kernel_rfl) (DA.on 6 (I0 6 none (.val undef) ([some (68,[(Sl3.v a0_0),(vB a0_1)]),some (26,[(vB a0_1),(Sl3.v x1)])]) false (K0 ?_)))))));exact fun a w hs=>jsN (hs.sb 2)
 ·refine m0 (C0 ?_);cases h;exact fun a w hs=>rtR (rS hs)
noncomputable def B63:Code:=(Tryz.f63.body).getD .skip
def z1t:(Bool×Sl3×AH)→Value
 | (r0,r1,_)=>(vA #[(vB r0),(Sl3.v r1)])
def z2i (_:AH):(Bool×Sl3×AH)→AH:=fun r=>r.2.2
noncomputable def z3h (L:LC) (m:Nat) (H:AH) (a0_0:Bool) (a0_1:Sl3):Option (Bool×Sl3×AH) :=
 (t4 L H a0_0 a0_1).bind fun (x1_0,x1_1) => (d7 L m H x1_0 x1_1).bind fun (x2_0,x2_1,H3) => some (x2_0,x2_1,H3)
theorem z7q {L:LC} {m:Nat} {H:AH} {a0_0:Bool} {a0_1:Sl3} {r:(Bool×Sl3×AH)} (h:z3h L m H a0_0 a0_1=some r) :
  CallS Tryz.prog (NE.plain 99) m 63 #[(vA #[(vB a0_0),(Sl3.v a0_1)])] H (z1t r) (z2i H r):=by
 refine CallS.mk (args:=[(vA #[(vB a0_0),(Sl3.v a0_1)])]) Tryz.func63 (B:=B63) (by kernel_rfl) (fun E _=>?_);unfold z3h at h;refine t0 (A0 (O0 2 [kL 2 1 0,kL 1 0 0] ([some (26,[(vB a0_0),(Sl3.v a0_1)]),some (26,[(vB false),(Sl3.v Sl3.nil)])]) (u0 (m0 (t0 (A0 (g0 1 [kA 3 #[(vB a0_0),(Sl3.v a0_1)]] ?_)))))));obtain ⟨⟨x1_0,x1_1⟩,hx,h⟩:=bind_some h;try dsimp only at h
 refine RS.cl (some 4) (v:=(vA #[(Sl3.v x1_0),(vB x1_1)])) 22 _ (G5 hx) ?_;obtain ⟨⟨x2_0,x2_1,H3⟩,hx,h⟩:=bind_some h;try dsimp only at h
 refine RS.cl (some 5) (v:=(vA #[(vB x2_0),(Sl3.v x2_1)])) 75 _ (z17 hx) (O0 1 [] ([some (26,[(vB a0_0),(Sl3.v a0_1)]),some (26,[(vB x2_0),(Sl3.v x2_1)])]) (u0 (m0 (C0 ?_))));cases h;exact fun a w hs=>rtR (rS hs)
noncomputable def B62:Code:=(Tryz.f62.body).getD .skip
def z9y:(Bool×AH)→Value
 | (r0,_)=>(vB r0)
def zb3 (_:AH):(Bool×AH)→AH:=fun r=>r.2
noncomputable def S8 (L:LC):Nat→FuncId→Array Value→AH→Option (Value×AH) :=
 (orO (orF 39 (dcC (dcG (dcC (dcI .i64) (dcC dcB (dcC dcB (dcC dcSl (dcC (dcI .i64) (dcC dcSl (dcC dcS (dcC (dcI .i64) (dcC (dcI .i64) (dcC (dcI .i64) (dcC dcS (dcC dcSl (dcC dcSl (dcC dcSl (dcC dcSl dcN)))))))))))))))) dcN) fun _ H ((a0_0,(a0_1,(a0_2,(a0_3,(a0_4,(a0_5,(a0_6,(a0_7,(a0_8,(a0_9,(a0_10,(a0_11,(a0_12,(a0_13,(a0_14,_))))))))))))))),_)=>(z6 L H a0_0 a0_1 a0_2 a0_3 a0_4 a0_5 a0_6 a0_7 a0_8 a0_9 a0_10 a0_11 a0_12 a0_13 a0_14).map fun r=>(K8 r,v9 H r))
  (orO (orF 63 (dcC (dcG (dcC dcB (dcC dcSl dcN))) dcN) fun m H ((a0_0,(a0_1,_)),_)=>(z3h L m H a0_0 a0_1).map fun r=>(z1t r,z2i H r))
  (orO (orF 66 (dcC (dcG (dcC (dcI .i64) (dcC (dcI .i64) (dcC dcS (dcC dcSl dcN))))) (dcC (dcG (dcC (dcI .i64) (dcC (dcI .i64) (dcC dcS (dcC dcSl dcN))))) dcN)) fun _ H ((a0_0,(a0_1,(a0_2,(a0_3,_)))),((a1_0,(a1_1,(a1_2,(a1_3,_)))),_))=>(z8k L H a0_0 a0_1 a0_2 a0_3 a1_0 a1_1 a1_2 a1_3).map fun r=>(a6 r,J6 H r))
  orN)))
noncomputable def z7y (L:LC) (m:Nat) (H:AH) (a0:Option Addr) (a1_0:Int) (a1_1 a1_2:Bool) (a1_3:Sl3) (a1_4:Int) (a1_5:Sl3) (a1_6:ByteArray) (a1_7 a1_8 a1_9:Int) (a1_10:ByteArray) (a1_11 a1_12:Sl3) (a1_13 a1_14:Sl3) (a2_0 a2_1:Int) (a2_2:ByteArray) (a2_3:Sl3):Option (Bool×AH) :=
 byRun Tryz.prog 99 (S8 L) m 62 #[(vP a0),(vA #[(vI .i64 a1_0),(vB a1_1),(vB a1_2),(Sl3.v a1_3),(vI .i64 a1_4),(Sl3.v a1_5),(vS a1_6),(vI .i64 a1_7),(vI .i64 a1_8),(vI .i64 a1_9),(vS a1_10),(Sl3.v a1_11),(Sl3.v a1_12),(Sl3.v a1_13),(Sl3.v a1_14)]),(vA #[(vI .i64 a2_0),(vI .i64 a2_1),(vS a2_2),(Sl3.v a2_3)])] H dcB fun r H2=>(r,H2)
theorem z7b {L:LC}:OrOK Tryz.prog (NE.plain 99) (S8 L):=by
 unfold S8;refine orO_ok (orF_ok fun m H ⟨⟨a0_0,⟨a0_1,⟨a0_2,⟨a0_3,⟨a0_4,⟨a0_5,⟨a0_6,⟨a0_7,⟨a0_8,⟨a0_9,⟨a0_10,⟨a0_11,⟨a0_12,⟨a0_13,⟨a0_14,_⟩⟩⟩⟩⟩⟩⟩⟩⟩⟩⟩⟩⟩⟩⟩,_⟩ v H' h=>by
  obtain ⟨r,h1,rfl,rfl⟩:=j3 h;exact z2j h1) ?_
 refine orO_ok (orF_ok fun m H ⟨⟨a0_0,⟨a0_1,_⟩⟩,_⟩ v H' h=>by
  obtain ⟨r,h1,rfl,rfl⟩:=j3 h;exact z7q h1) ?_
 refine orO_ok (orF_ok fun m H ⟨⟨a0_0,⟨a0_1,⟨a0_2,⟨a0_3,_⟩⟩⟩⟩,⟨⟨a1_0,⟨a1_1,⟨a1_2,⟨a1_3,_⟩⟩⟩⟩,_⟩⟩ v H' h=>by
  obtain ⟨r,h1,rfl,rfl⟩:=j3 h;exact z9e h1) ?_
 exact orN_ok
theorem zb4 {L:LC} {m:Nat} {H:AH} {a0:Option Addr} {a1_0:Int} {a1_1 a1_2:Bool} {a1_3:Sl3} {a1_4:Int} {a1_5:Sl3} {a1_6:ByteArray} {a1_7 a1_8 a1_9:Int} {a1_10:ByteArray} {a1_11 a1_12:Sl3} {a1_13 a1_14:Sl3} {a2_0 a2_1:Int} {a2_2:ByteArray} {a2_3:Sl3} {r:(Bool×AH)} (h:z7y L m H a0 a1_0 a1_1 a1_2 a1_3 a1_4 a1_5 a1_6 a1_7 a1_8 a1_9 a1_10 a1_11 a1_12 a1_13 a1_14 a2_0 a2_1 a2_2 a2_3=some r) :
  CallS Tryz.prog (NE.plain 99) m 62 #[(vP a0),(vA #[(vI .i64 a1_0),(vB a1_1),(vB a1_2),(Sl3.v a1_3),(vI .i64 a1_4),(Sl3.v a1_5),(vS a1_6),(vI .i64 a1_7),(vI .i64 a1_8),(vI .i64 a1_9),(vS a1_10),(Sl3.v a1_11),(Sl3.v a1_12),(Sl3.v a1_13),(Sl3.v a1_14)]),(vA #[(vI .i64 a2_0),(vI .i64 a2_1),(vS a2_2),(Sl3.v a2_3)])] H (z9y r) (zb3 H r):=by
 obtain ⟨r,H2,rfl,hc⟩:=z4f z7b Tryz.func62 (show Tryz.f62.body=some B62 by kernel_rfl) h;exact hc
noncomputable def B37:Code:=(Tryz.f37.body).getD .skip
def z7g:(Int×AH)→Value
 | (r0,_)=>(vI .i64 r0)
def z81 (_:AH):(Int×AH)→AH:=fun r=>r.2
noncomputable def G9 (L:LC) (m:Nat) (H:AH) (a0:Option Addr) (a1_0:Int) (a1_1 a1_2:Bool) (a1_3:Sl3) (a1_4:Int) (a1_5:Sl3) (a1_6:ByteArray) (a1_7 a1_8 a1_9:Int) (a1_10:ByteArray) (a1_11 a1_12:Sl3) (a1_13 a1_14:Sl3) (a2_0 a2_1:Int) (a2_2:ByteArray) (a2_3:Sl3):Option (Int×AH) :=
 (z1y L H a1_0 a1_1 a1_2 a1_3 a1_4 a1_5 a1_6 a1_7 a1_8 a1_9 a1_10 a1_11 a1_12 a1_13 a1_14).bind fun x1 => if x1 > 65536 then
  none
 else
  (z7y L m H a0 a1_0 a1_1 a1_2 a1_3 a1_4 a1_5 a1_6 a1_7 a1_8 a1_9 a1_10 a1_11 a1_12 a1_13 a1_14 a2_0 a2_1 a2_2 a2_3).bind fun (x2,H3) => if x2=true then
   some (0,H3)
  else
   none
theorem z80 {L:LC} {m:Nat} {H:AH} {a0:Option Addr} {a1_0:Int} {a1_1 a1_2:Bool} {a1_3:Sl3} {a1_4:Int} {a1_5:Sl3} {a1_6:ByteArray} {a1_7 a1_8 a1_9:Int} {a1_10:ByteArray} {a1_11 a1_12:Sl3} {a1_13 a1_14:Sl3} {a2_0 a2_1:Int} {a2_2:ByteArray} {a2_3:Sl3} {r:(Int×AH)} (h:G9 L m H a0 a1_0 a1_1 a1_2 a1_3 a1_4 a1_5 a1_6 a1_7 a1_8 a1_9 a1_10 a1_11 a1_12 a1_13 a1_14 a2_0 a2_1 a2_2 a2_3=some r) :
  CallS Tryz.prog (NE.plain 99) m 37 #[(vP a0),(vA #[(vI .i64 a1_0),(vB a1_1),(vB a1_2),(Sl3.v a1_3),(vI .i64 a1_4),(Sl3.v a1_5),(vS a1_6),(vI .i64 a1_7),(vI .i64 a1_8),(vI .i64 a1_9),(vS a1_10),(Sl3.v a1_11),(Sl3.v a1_12),(Sl3.v a1_13),(Sl3.v a1_14)]),(vA #[(vI .i64 a2_0),(vI .i64 a2_1),(vS a2_2),(Sl3.v a2_3)])] H (z7g r) (z81 H r):=by
 refine CallS.mk (args:=[(vP a0),(vA #[(vI .i64 a1_0),(vB a1_1),(vB a1_2),(Sl3.v a1_3),(vI .i64 a1_4),(Sl3.v a1_5),(vS a1_6),(vI .i64 a1_7),(vI .i64 a1_8),(vI .i64 a1_9),(vS a1_10),(Sl3.v a1_11),(Sl3.v a1_12),(Sl3.v a1_13),(Sl3.v a1_14)]),(vA #[(vI .i64 a2_0),(vI .i64 a2_1),(vS a2_2),(Sl3.v a2_3)])]) Tryz.func37 (B:=B37) (by kernel_rfl) (fun E _=>?_);unfold G9 at h;refine t0 (A0 (O0 3 [kI 6 0,kL 5 1 0,kL 4 0 0] ([some (36,[(vI .i64 a1_0),(vB a1_1),(vB a1_2),(Sl3.v a1_3),(vI .i64 a1_4),(Sl3.v a1_5),(vS a1_6),(vI .i64 a1_7),(vI .i64 a1_8),(vI .i64 a1_9),(vS a1_10),(Sl3.v a1_11),(Sl3.v a1_12),(Sl3.v a1_13),(Sl3.v a1_14)]),some (32,[(vI .i64 a2_0),(vI .i64 a2_1),(vS a2_2),(Sl3.v a2_3)])]) (u0 (m0 (t0 (t0 (A0 (g0 1 [kA 7 #[(vI .i64 a1_0),(vB a1_1),(vB a1_2),(Sl3.v a1_3),(vI .i64 a1_4),(Sl3.v a1_5),(vS a1_6),(vI .i64 a1_7),(vI .i64 a1_8),(vI .i64 a1_9),(vS a1_10),(Sl3.v a1_11),(Sl3.v a1_12),(Sl3.v a1_13),(Sl3.v a1_14)]] ?_))))))));obtain ⟨x1,hx,h⟩:=bind_some h;refine RS.cl (some 8) (v:=(vI .i64 x1)) 61 _ (z1e hx) (g0 1 [kB 9 (decide (x1 > 65536))] (u0 (m0 ?_)));rcases J1 h with ⟨hp,h⟩ | ⟨hp,h⟩
 ·refine B0 9 true (decide_eq_true hp) (E0 ?_);cases h
 ·refine B0 9 false (decide_eq_false hp) (D0 (M0 (m0 (t0 (t0 (A0 (g0 3 [kA 12 #[(vI .i64 a2_0),(vI .i64 a2_1),(vS a2_2),(Sl3.v a2_3)],kA 11 #[(vI .i64 a1_0),(vB a1_1),(vB a1_2),(Sl3.v a1_3),(vI .i64 a1_4),(Sl3.v a1_5),(vS a1_6),(vI .i64 a1_7),(vI .i64 a1_8),(vI .i64 a1_9),(vS a1_10),(Sl3.v a1_11),(Sl3.v a1_12),(Sl3.v a1_13),(Sl3.v a1_14)],(10,.val (vP a0))] ?_)))))));obtain ⟨⟨x2,H3⟩,hx,h⟩:=bind_some h;try dsimp only at h
  refine RS.cl (some 13) (v:=(vB x2)) 62 _ (zb4 hx) (g0 1 [kB 14 (!x2)] (u0 (m0 ?_)));rcases J1 h with ⟨hp,h⟩ | ⟨hp,h⟩
  ·refine B0 14 false (nb_not hp) (D0 (M0 (m0 (t0 (A0 (g0 1 [kI 6 0] (u0 (m0 (C0 ?_)))))))));cases h;exact fun a w hs=>rtR (rS hs)
  ·refine B0 14 true (Q4 hp) (E0 ?_);cases h
noncomputable def B33:Code:=(Tryz.f33.body).getD .skip
def F4:Int→Value
 | r0=>(vI .i64 r0)
def P4 (H:AH):Int→AH:=fun _=>H
noncomputable def I2 (_L:LC) (H:AH) (a0 a1:Sl3):Int→Option (Lp Int Int):=fun v5_1 =>
 if v5_1≥0 then
  (idxA 1 a0 v5_1).bind fun p2 => (rd (deI .u64) H p2).bind fun x3 => (idxA 1 a1 v5_1).bind fun p4 => (rd (deI .u64) H p4).bind fun x5 => if x3=x5 then
   some (.next (IntKind.i64.wrap (v5_1 - 1)))
  else
   (idxA 1 a0 v5_1).bind fun p6 => (rd (deI .u64) H p6).bind fun x7 => (idxA 1 a1 v5_1).bind fun p8 => (rd (deI .u64) H p8).bind fun x9 => if x7<x9 then
    some (.ret (-1))
   else
    some (.ret 1)
 else
  some (.brk v5_1)
def G6 (_L:LC) (_H:AH) (a0 a1:Sl3):Int→KN×Lcs:=fun v5_1=>([kI 5 v5_1,kS 0 a0,kS 1 a1],[])
noncomputable def Y2 (L:LC) (H:AH) (a0 a1:Sl3):Option Int :=
 if (a0.n:Int)=(a1.n:Int) then
  (L.run (I2 L H a0 a1) (IntKind.i64.wrap ((a0.n:Int) - 1))).bind fun o=>match o with
  | .inl _ =>
   some 0
  | .inr r=>some r
 else
  none
theorem T3 {E m L H a0 a1} :LoopF Tryz.prog (NE.plain 99) m E Tryz.f33 ((cfst (csnd (cfst (csnd (csnd B33)))))) (G6 L H a0 a1) (fun _=>H) 0 F4 (P4 H) (I2 L H a0 a1):=by
 rintro v5_1 o h
 unfold I2 at h;try dsimp only at h
 refine t0 (t0 (A0 (g0 2 [kB 20 (decide (v5_1≥0)),kI 19 v5_1] (u0 (m0 ?_)))));rcases J1 h with ⟨hp,h⟩ | ⟨hp,h⟩
 ·refine B0 20 true (decide_eq_true hp) (E0 (M0 (m0 (t0 (P0 1 (t0 ?_))))));refine C1 [0,1,2,3,4,5,6,7] [0,0,3,7,0,0,48,112,255] 9 (fun hcl=>?_);refine S0 0 (some 23) (Sl3.v a0) (S0 1 (some 24) (vI .i64 v5_1) ?_);obtain ⟨p2,hx,h⟩:=bind_some h;refine Z0 2 (some 25) (vP (some p2)) (Abs.det_idx (s:=a0) (k:=.i64) (t:=66) (e:=53) (x:=.tmp 23) (y:=.tmp 24) (by kernel_rfl) (by kernel_rfl) (by kernel_rfl) (by kernel_rfl) (by kernel_rfl) hx) ?_;obtain ⟨x3,hx,h⟩:=bind_some h;refine Z0 3 (some 26) (vI .u64 x3) (Abs.det_load (t:=53) (x:=.tmp 25) (a:=p2) (by kernel_rfl) (by kernel_rfl) (by kernel_rfl) (by kernel_rfl) (I1 hx N1)) (S0 4 (some 27) (Sl3.v a1) (S0 5 (some 28) (vI .i64 v5_1) ?_));obtain ⟨p4,hx,h⟩:=bind_some h;refine Z0 6 (some 29) (vP (some p4)) (Abs.det_idx (s:=a1) (k:=.i64) (t:=66) (e:=53) (x:=.tmp 27) (y:=.tmp 28) (by kernel_rfl) (by kernel_rfl) (by kernel_rfl) (by kernel_rfl) (by kernel_rfl) hx) ?_;obtain ⟨x5,hx,h⟩:=bind_some h;refine Z0 7 (some 30) (vI .u64 x5) (Abs.det_load (t:=53) (x:=.tmp 29) (a:=p4) (by kernel_rfl) (by kernel_rfl) (by kernel_rfl) (by kernel_rfl) (I1 hx N1)) (N0 8 (some 31) (vB (!decide (x3=x5))) (K0 (m0 ?_)));rcases J1 h with ⟨hp,h⟩ | ⟨hp,h⟩
  ·refine B0 31 false (C2 hp) (D0 (M0 ?_));refine fun a w hs=>bkN ((m0 ?_ a w hs));refine A0 (g0 3 [kI 5 (IntKind.i64.wrap (v5_1 - 1)),kI 22 (IntKind.i64.wrap (v5_1 - 1)),kI 21 v5_1] (u0 ?_));cases h;exact fun a w hs=>lsN rfl (hs.sb 0)
  ·refine B0 31 true (A2 hp) (E0 (t0 (t0 ?_)));refine C1 [0,1,2,3,4,5,6,7] [0,0,3,7,0,0,48,112,255] 9 (fun hcl=>?_);refine S0 0 (some 32) (Sl3.v a0) (S0 1 (some 33) (vI .i64 v5_1) ?_);obtain ⟨p6,hx,h⟩:=bind_some h;refine Z0 2 (some 34) (vP (some p6)) (Abs.det_idx (s:=a0) (k:=.i64) (t:=66) (e:=53) (x:=.tmp 32) (y:=.tmp 33) (by kernel_rfl) (by kernel_rfl) (by kernel_rfl) (by kernel_rfl) (by kernel_rfl) hx) ?_;obtain ⟨x7,hx,h⟩:=bind_some h;refine Z0 3 (some 35) (vI .u64 x7) (Abs.det_load (t:=53) (x:=.tmp 34) (a:=p6) (by kernel_rfl) (by kernel_rfl) (by kernel_rfl) (by kernel_rfl) (I1 hx N1)) (S0 4 (some 36) (Sl3.v a1) (S0 5 (some 37) (vI .i64 v5_1) ?_));obtain ⟨p8,hx,h⟩:=bind_some h;refine Z0 6 (some 38) (vP (some p8)) (Abs.det_idx (s:=a1) (k:=.i64) (t:=66) (e:=53) (x:=.tmp 36) (y:=.tmp 37) (by kernel_rfl) (by kernel_rfl) (by kernel_rfl) (by kernel_rfl) (by kernel_rfl) hx) ?_;obtain ⟨x9,hx,h⟩:=bind_some h;refine Z0 7 (some 39) (vI .u64 x9) (Abs.det_load (t:=53) (x:=.tmp 38) (a:=p8) (by kernel_rfl) (by kernel_rfl) (by kernel_rfl) (by kernel_rfl) (I1 hx N1)) (N0 8 (some 40) (vB (decide (x7<x9))) (K0 (m0 ?_)));rcases J1 h with ⟨hp,h⟩ | ⟨hp,h⟩
   ·refine B0 40 true (decide_eq_true hp) (E0 (t0 (A0 (g0 1 [kI 4 (-1)] (u0 (m0 (C0 ?_)))))));cases h;exact fun a w hs=>sqR (bkR (sqR (lsR rfl (rS hs))))
   ·refine B0 40 false (decide_eq_false hp) (D0 (M0 (m0 (t0 (A0 (g0 1 [kI 4 1] (u0 (m0 (C0 ?_)))))))));cases h;exact fun a w hs=>bkR (sqR (lsR rfl (rS hs)))
 ·refine B0 20 false (decide_eq_false hp) (D0 (WS.ex 0 ?_));cases h;exact fun a w hs=>sqE (lsB rfl (hs.sb 0))
theorem R5 {L:LC} {m:Nat} {H:AH} {a0 a1:Sl3} {r:Int} (h:Y2 L H a0 a1=some r) :
  CallS Tryz.prog (NE.plain 99) m 33 #[(Sl3.v a0),(Sl3.v a1)] H (F4 r) (P4 H r):=by
 refine CallS.mk (args:=[(Sl3.v a0),(Sl3.v a1)]) Tryz.func33 (B:=B33) (by kernel_rfl) (fun E _=>?_);unfold Y2 at h;refine t0 (A0 (g0 1 [kI 4 0] (u0 (m0 (t0 (t0 (A0 (g0 5 [kB 10 (!decide ((a0.n:Int)=(a1.n:Int))),kI 9 (a1.n:Int),kS 8 a1,kI 7 (a0.n:Int),kS 6 a0] (u0 ?_)))))))));refine m0 ?_;rcases J1 h with ⟨hp,h⟩ | ⟨hp,h⟩
 ·refine B0 10 false (C2 hp) (D0 (M0 (m0 (t0 (t0 (A0 (g0 4 [kI 5 (IntKind.i64.wrap ((a0.n:Int) - 1)),kI 18 (IntKind.i64.wrap ((a0.n:Int) - 1)),kI 17 (a0.n:Int),kS 16 a0] (u0 (m0 ?_)))))))));refine P0 0 ?_;obtain ⟨o,hl,h⟩:=bind_some h;rcases o with v5_10 | r
  ·try dsimp only at h
   refine Y0 (T3 (L:=L) (E:=E) (m:=m) (H:=H)) (L.ok hl) 0 ?_;clear hl;refine fun a w hs=>bkE ((m0 ?_ a w hs));refine t0 (A0 (g0 1 [kI 4 0] (u0 (m0 (C0 ?_)))));cases h;exact fun a w hs=>rtR (rS hs)
  ·try dsimp only at h
   refine X0 (T3 (L:=L) (E:=E) (m:=m) (H:=H)) (L.ok hl) 0 ?_;cases h;exact fun a w hq=>bkR (sqR (rtR hq))
 ·refine B0 10 true (A2 hp) (E0 ?_);cases h
noncomputable def B23:Code:=(Tryz.f23.body).getD .skip
def V6:Int→Value
 | r0=>(vI .i64 r0)
def D7 (H:AH):Int→AH:=fun _=>H
noncomputable def o3 (L:LC) (H:AH) (a0_0:Sl3) (a0_1:Bool) (a1_0:Sl3) (a1_1:Bool):Option Int :=
 if a0_1=true then
  none
 else
  if a0_1=true then
   none
  else
   if a1_1=true then
    none
   else
    if a0_1=true then
     none
    else
     (Y2 L H a0_0 a1_0).bind fun x1 => some x1
theorem F7 {L:LC} {m:Nat} {H:AH} {a0_0:Sl3} {a0_1:Bool} {a1_0:Sl3} {a1_1:Bool} {r:Int} (h:o3 L H a0_0 a0_1 a1_0 a1_1=some r) :
  CallS Tryz.prog (NE.plain 99) m 23 #[(vA #[(Sl3.v a0_0),(vB a0_1)]),(vA #[(Sl3.v a1_0),(vB a1_1)])] H (V6 r) (D7 H r):=by
 refine CallS.mk (args:=[(vA #[(Sl3.v a0_0),(vB a0_1)]),(vA #[(Sl3.v a1_0),(vB a1_1)])]) Tryz.func23 (B:=B23) (by kernel_rfl) (fun E _=>?_);unfold o3 at h;refine t0 (A0 (O0 3 [kI 4 0,kL 3 1 0,kL 2 0 0] ([some (68,[(Sl3.v a0_0),(vB a0_1)]),some (68,[(Sl3.v a1_0),(vB a1_1)])]) (u0 (m0 (t0 (P0 0 (t0 (A0 (g0 3 [kB 8 a0_1,kB 7 a0_1,kL 6 0 1] ?_)))))))));rcases J1 h with ⟨hp,h⟩ | ⟨hp,h⟩
 ·refine F0 8 true hp ?_;cases h
 ·refine F0 8 false (b_not hp) (g0 5 [kB 5 false,kB 12 false,kU 11,kU 10,kU 9] (u0 (m0 (D0 (t0 (A0 (g0 4 [kB 17 (!a0_1),kB 16 (!a0_1),kB 15 a0_1,kL 14 0 1] ?_)))))));rcases J1 h with ⟨hp,h⟩ | ⟨hp,h⟩
  ·refine F0 17 false (nb_not hp) ?_;cases h
  ·refine F0 17 true (Q4 hp) (g0 4 [kB 13 a1_1,kB 20 a1_1,kB 19 a1_1,kL 18 1 1] (u0 (m0 ?_)));rcases J1 h with ⟨hp,h⟩ | ⟨hp,h⟩
   ·refine B0 13 true hp (E0 ?_);cases h
   ·refine B0 13 false (b_not hp) (D0 (t0 (A0 (g0 3 [kB 21 a0_1,kB 23 a0_1,kL 22 0 1] (u0 (m0 ?_))))));rcases J1 h with ⟨hp,h⟩ | ⟨hp,h⟩
    ·refine B0 21 true hp (E0 ?_);cases h
    ·refine B0 21 false (b_not hp) (D0 (M0 ?_));refine fun a w hs=>bkN ((m0 ?_ a w hs));refine t0 (A0 (g0 4 [kS 32 a1_0,kL 31 1 0,kS 30 a0_0,kL 29 0 0] ?_));obtain ⟨x1,hx,h⟩:=bind_some h;refine RS.cl (some 33) (v:=(vI .i64 x1)) 33 _ (R5 hx) (g0 1 [kI 4 x1] (u0 (m0 (C0 ?_))));cases h;exact fun a w hs=>rtR (rS hs)
noncomputable def B7:Code:=(Tryz.f7.body).getD .skip
def z33:Int→Value
 | r0=>(vI .i64 r0)
def z48 (H:AH):Int→AH:=fun _=>H
noncomputable def I5 (L:LC) (H:AH) (a0_0:Bool) (a0_1:Sl3) (a1_0:Bool) (a1_1:Sl3):Option Int :=
 (t4 L H a0_0 a0_1).bind fun (x1_0,x1_1) => (t4 L H a1_0 a1_1).bind fun (x2_0,x2_1) => (o3 L H x1_0 x1_1 x2_0 x2_1).bind fun x3 => some x3
theorem W1 {L:LC} {m:Nat} {H:AH} {a0_0:Bool} {a0_1:Sl3} {a1_0:Bool} {a1_1:Sl3} {r:Int} (h:I5 L H a0_0 a0_1 a1_0 a1_1=some r) :
  CallS Tryz.prog (NE.plain 99) m 7 #[(vA #[(vB a0_0),(Sl3.v a0_1)]),(vA #[(vB a1_0),(Sl3.v a1_1)])] H (z33 r) (z48 H r):=by
 refine CallS.mk (args:=[(vA #[(vB a0_0),(Sl3.v a0_1)]),(vA #[(vB a1_0),(Sl3.v a1_1)])]) Tryz.func7 (B:=B7) (by kernel_rfl) (fun E _=>?_);unfold I5 at h;refine t0 (A0 (O0 3 [kI 4 0,kL 3 1 0,kL 2 0 0] ([some (26,[(vB a0_0),(Sl3.v a0_1)]),some (26,[(vB a1_0),(Sl3.v a1_1)])]) (u0 (m0 (t0 ?_)))));refine C1 [0,2] [0,1,0,7,15,31] 6 (fun hcl=>?_);refine Q0 0 (some 5) (.val (vA #[(vB a0_0),(Sl3.v a0_1)])) (Q0 2 (some 7) (.val (vA #[(vB a1_0),(Sl3.v a1_1)])) ?_);obtain ⟨⟨x1_0,x1_1⟩,hx,h⟩:=bind_some h;try dsimp only at h
 refine DA.on 1 (A1 1 (some 6) false (v:=(vA #[(Sl3.v x1_0),(vB x1_1)])) 22 #[(vA #[(vB a0_0),(Sl3.v a0_1)])] (G5 hx) ?_);obtain ⟨⟨x2_0,x2_1⟩,hx,h⟩:=bind_some h;try dsimp only at h
 refine DA.on 3 (J0 3 (some 8) (v:=(vA #[(Sl3.v x2_0),(vB x2_1)])) 22 #[(vA #[(vB a1_0),(Sl3.v a1_1)])] (G5 hx) ?_);obtain ⟨x3,hx,h⟩:=bind_some h;refine DA.on 4 (J0 4 (some 9) (v:=(vI .i64 x3)) 23 #[(vA #[(Sl3.v x1_0),(vB x1_1)]),(vA #[(Sl3.v x2_0),(vB x2_1)])] (F7 hx) (N0 5 (some 4) (vI .i64 x3) (K0 (m0 (C0 ?_)))));cases h;exact fun a w hs=>rtR (rS hs)
noncomputable def B4:Code:=(Tryz.f4.body).getD .skip
def A3:(Int×AH)→Value
 | (r0,_)=>(vI .i64 r0)
def G3 (_:AH):(Int×AH)→AH:=fun r=>r.2
noncomputable def N3 (L:LC) (_m:Nat) (H:AH) (a0_0:Int) (a0_1 a0_2:Bool) (a0_3:Sl3) (_a0_4:Int) (_a0_5:Sl3) (_a0_6:ByteArray) (_a0_7 _a0_8 _a0_9:Int) (_a0_10:ByteArray) (_a0_11 _a0_12:Sl3) (_a0_13 _a0_14:Sl3) (a1_0:Int) (a1_1 a1_2:Bool) (a1_3:Sl3) (_a1_4:Int) (_a1_5:Sl3) (_a1_6:ByteArray) (_a1_7 _a1_8 _a1_9:Int) (_a1_10:ByteArray) (_a1_11 _a1_12:Sl3) (_a1_13 _a1_14:Sl3):Option (Int×AH) :=
 if a0_0=a1_0 then
  if a0_0=1 then
   if (a0_1 == a1_1)=true then
    some (0,H)
   else
    if a1_1=true then
     none
    else
     some (1,H)
  else
   if a0_0=2 then
    (I5 L H a0_2 a0_3 a1_2 a1_3).bind fun x1 => some (x1,H)
   else
    none
 else
  none
noncomputable def z7x (L:LC) (n:Nat):(Nat→AH→Int→Bool→Bool→Sl3→Int→Sl3→ByteArray→Int→Int→Int→ByteArray→Sl3→Sl3→Sl3→Sl3→Int→Bool→Bool→Sl3→Int→Sl3→ByteArray→Int→Int→Int→ByteArray→Sl3→Sl3→Sl3→Sl3→Option (Int×AH)):=Nat.rec (motive:=fun _=>(Nat→AH→Int→Bool→Bool→Sl3→Int→Sl3→ByteArray→Int→Int→Int→ByteArray→Sl3→Sl3→Sl3→Sl3→Int→Bool→Bool→Sl3→Int→Sl3→ByteArray→Int→Int→Int→ByteArray→Sl3→Sl3→Sl3→Sl3→Option (Int×AH))) (fun _ _ _ _ _ _ _ _ _ _ _ _ _ _ _ _ _ _ _ _ _ _ _ _ _ _ _ _ _ _ _ _=>none) (fun _ _=>N3 L) n
noncomputable def Y1 (L:LC) (m:Nat) (H:AH) (a0_0:Int) (a0_1 a0_2:Bool) (a0_3:Sl3) (a0_4:Int) (a0_5:Sl3) (a0_6:ByteArray) (a0_7 a0_8 a0_9:Int) (a0_10:ByteArray) (a0_11 a0_12:Sl3) (a0_13 a0_14:Sl3) (a1_0:Int) (a1_1 a1_2:Bool) (a1_3:Sl3) (a1_4:Int) (a1_5:Sl3) (a1_6:ByteArray) (a1_7 a1_8 a1_9:Int) (a1_10:ByteArray) (a1_11 a1_12:Sl3) (a1_13 a1_14:Sl3):Option (Int×AH):=(z7x L L.fuel) m H a0_0 a0_1 a0_2 a0_3 a0_4 a0_5 a0_6 a0_7 a0_8 a0_9 a0_10 a0_11 a0_12 a0_13 a0_14 a1_0 a1_1 a1_2 a1_3 a1_4 a1_5 a1_6 a1_7 a1_8 a1_9 a1_10 a1_11 a1_12 a1_13 a1_14
theorem T8 {L:LC} {m:Nat} {H:AH} {a0_0:Int} {a0_1 a0_2:Bool} {a0_3:Sl3} {a0_4:Int} {a0_5:Sl3} {a0_6:ByteArray} {a0_7 a0_8 a0_9:Int} {a0_10:ByteArray} {a0_11 a0_12:Sl3} {a0_13 a0_14:Sl3} {a1_0:Int} {a1_1 a1_2:Bool} {a1_3:Sl3} {a1_4:Int} {a1_5:Sl3} {a1_6:ByteArray} {a1_7 a1_8 a1_9:Int} {a1_10:ByteArray} {a1_11 a1_12:Sl3} {a1_13 a1_14:Sl3} {r:(Int×AH)} (h:N3 L m H a0_0 a0_1 a0_2 a0_3 a0_4 a0_5 a0_6 a0_7 a0_8 a0_9 a0_10 a0_11 a0_12 a0_13 a0_14 a1_0 a1_1 a1_2 a1_3 a1_4 a1_5 a1_6 a1_7 a1_8 a1_9 a1_10 a1_11 a1_12 a1_13 a1_14=some r) :
  CallS Tryz.prog (NE.plain 99) m 4 #[(vA #[(vI .i64 a0_0),(vB a0_1),(vB a0_2),(Sl3.v a0_3),(vI .i64 a0_4),(Sl3.v a0_5),(vS a0_6),(vI .i64 a0_7),(vI .i64 a0_8),(vI .i64 a0_9),(vS a0_10),(Sl3.v a0_11),(Sl3.v a0_12),(Sl3.v a0_13),(Sl3.v a0_14)]),(vA #[(vI .i64 a1_0),(vB a1_1),(vB a1_2),(Sl3.v a1_3),(vI .i64 a1_4),(Sl3.v a1_5),(vS a1_6),(vI .i64 a1_7),(vI .i64 a1_8),(vI .i64 a1_9),(vS a1_10),(Sl3.v a1_11),(Sl3.v a1_12),(Sl3.v a1_13),(Sl3.v a1_14)])] H (A3 r) (G3 H r):=by
 refine CallS.mk (args:=[(vA #[(vI .i64 a0_0),(vB a0_1),(vB a0_2),(Sl3.v a0_3),(vI .i64 a0_4),(Sl3.v a0_5),(vS a0_6),(vI .i64 a0_7),(vI .i64 a0_8),(vI .i64 a0_9),(vS a0_10),(Sl3.v a0_11),(Sl3.v a0_12),(Sl3.v a0_13),(Sl3.v a0_14)]),(vA #[(vI .i64 a1_0),(vB a1_1),(vB a1_2),(Sl3.v a1_3),(vI .i64 a1_4),(Sl3.v a1_5),(vS a1_6),(vI .i64 a1_7),(vI .i64 a1_8),(vI .i64 a1_9),(vS a1_10),(Sl3.v a1_11),(Sl3.v a1_12),(Sl3.v a1_13),(Sl3.v a1_14)])]) Tryz.func4 (B:=B4) (by kernel_rfl) (fun E _=>?_);unfold N3 at h;refine t0 (A0 (O0 3 [kI 4 0,kL 3 1 0,kL 2 0 0] ([some (36,[(vI .i64 a0_0),(vB a0_1),(vB a0_2),(Sl3.v a0_3),(vI .i64 a0_4),(Sl3.v a0_5),(vS a0_6),(vI .i64 a0_7),(vI .i64 a0_8),(vI .i64 a0_9),(vS a0_10),(Sl3.v a0_11),(Sl3.v a0_12),(Sl3.v a0_13),(Sl3.v a0_14)]),some (36,[(vI .i64 a1_0),(vB a1_1),(vB a1_2),(Sl3.v a1_3),(vI .i64 a1_4),(Sl3.v a1_5),(vS a1_6),(vI .i64 a1_7),(vI .i64 a1_8),(vI .i64 a1_9),(vS a1_10),(Sl3.v a1_11),(Sl3.v a1_12),(Sl3.v a1_13),(Sl3.v a1_14)])]) (u0 (m0 (t0 (t0 (A0 (g0 5 [kB 9 (!decide (a0_0=a1_0)),kI 8 a1_0,kL 7 1 0,kI 6 a0_0,kL 5 0 0] (u0 ?_)))))))));refine m0 ?_;rcases J1 h with ⟨hp,h⟩ | ⟨hp,h⟩
 ·refine B0 9 false (C2 hp) (D0 (M0 (m0 (t0 (t0 (A0 (g0 2 [kI 16 a0_0,kL 15 0 0] (u0 (m0 ?_)))))))));refine P0 0 (t0 (A0 (g0 2 [kB 17 (decide (a0_0=1)),kB 18 (decide (a0_0=1))] (u0 (m0 ?_)))));rcases J1 h with ⟨hp,h⟩ | ⟨hp,h⟩
  ·refine B0 17 true (decide_eq_true hp) (E0 (t0 (t0 (A0 (g0 5 [kB 23 (a0_1 == a1_1),kB 22 a1_1,kL 21 1 1,kB 20 a0_1,kL 19 0 1] (u0 (m0 ?_)))))));rcases J1 h with ⟨hp,h⟩ | ⟨hp,h⟩
   ·refine B0 23 true hp (E0 (t0 (A0 (g0 1 [kI 4 0] (u0 (m0 (C0 ?_)))))));cases h;exact fun a w hs=>sqR (bkR (sqR (rtR (rS hs))))
   ·refine B0 23 false (b_not hp) (D0 (M0 (m0 (t0 (t0 (A0 (g0 2 [kB 25 a1_1,kL 24 1 1] (u0 (m0 ?_)))))))));rcases J1 h with ⟨hp,h⟩ | ⟨hp,h⟩
    ·refine B0 25 true hp (E0 ?_);cases h
    ·refine B0 25 false (b_not hp) (D0 (M0 (m0 (t0 (A0 (g0 1 [kI 4 1] (u0 (m0 (C0 ?_)))))))));cases h;exact fun a w hs=>bkR (sqR (rtR (rS hs)))
  ·refine B0 17 false (decide_eq_false hp) (D0 (t0 (A0 (g0 2 [kB 26 (decide (a0_0=2)),kB 27 (decide (a0_0=2))] (u0 (m0 ?_))))));rcases J1 h with ⟨hp,h⟩ | ⟨hp,h⟩
   ·refine B0 26 true (decide_eq_true hp) (E0 (t0 (A0 (g0 4 [kA 31 #[(vB a1_2),(Sl3.v a1_3)],kL 30 1 2,kA 29 #[(vB a0_2),(Sl3.v a0_3)],kL 28 0 2] ?_))));obtain ⟨x1,hx,h⟩:=bind_some h;refine RS.cl (some 32) (v:=(vI .i64 x1)) 7 _ (W1 hx) (g0 1 [kI 4 x1] (u0 (m0 (C0 ?_))));cases h;exact fun a w hs=>bkR (sqR (rtR (rS hs)))
   ·refine B0 26 false (decide_eq_false hp) (D0 ?_);cases h
 ·refine B0 9 true (A2 hp) (E0 ?_);cases h
theorem zb2 {L:LC}:∀n,(∀(m:Nat) (H:AH) (a0_0:Int) (a0_1 a0_2:Bool) (a0_3:Sl3) (a0_4:Int) (a0_5:Sl3) (a0_6:ByteArray) (a0_7 a0_8 a0_9:Int) (a0_10:ByteArray) (a0_11 a0_12:Sl3) (a0_13 a0_14:Sl3) (a1_0:Int) (a1_1 a1_2:Bool) (a1_3:Sl3) (a1_4:Int) (a1_5:Sl3) (a1_6:ByteArray) (a1_7 a1_8 a1_9:Int) (a1_10:ByteArray) (a1_11 a1_12:Sl3) (a1_13 a1_14:Sl3) (r:(Int×AH)),((z7x L n)) m H a0_0 a0_1 a0_2 a0_3 a0_4 a0_5 a0_6 a0_7 a0_8 a0_9 a0_10 a0_11 a0_12 a0_13 a0_14 a1_0 a1_1 a1_2 a1_3 a1_4 a1_5 a1_6 a1_7 a1_8 a1_9 a1_10 a1_11 a1_12 a1_13 a1_14=some r→CallS Tryz.prog (NE.plain 99) m 4 #[(vA #[(vI .i64 a0_0),(vB a0_1),(vB a0_2),(Sl3.v a0_3),(vI .i64 a0_4),(Sl3.v a0_5),(vS a0_6),(vI .i64 a0_7),(vI .i64 a0_8),(vI .i64 a0_9),(vS a0_10),(Sl3.v a0_11),(Sl3.v a0_12),(Sl3.v a0_13),(Sl3.v a0_14)]),(vA #[(vI .i64 a1_0),(vB a1_1),(vB a1_2),(Sl3.v a1_3),(vI .i64 a1_4),(Sl3.v a1_5),(vS a1_6),(vI .i64 a1_7),(vI .i64 a1_8),(vI .i64 a1_9),(vS a1_10),(Sl3.v a1_11),(Sl3.v a1_12),(Sl3.v a1_13),(Sl3.v a1_14)])] H (A3 r) (G3 H r)):=by
 intro n;induction n with
 | zero=>exact (fun _ _ _ _ _ _ _ _ _ _ _ _ _ _ _ _ _ _ _ _ _ _ _ _ _ _ _ _ _ _ _ _ _ h=>(Option.some_ne_none _ h.symm).elim)
 | succ n ih=>exact (fun _ _ _ _ _ _ _ _ _ _ _ _ _ _ _ _ _ _ _ _ _ _ _ _ _ _ _ _ _ _ _ _ _ h=>T8 (L:=L)  h)
theorem T1 {L:LC} {m:Nat} {H:AH} {a0_0:Int} {a0_1 a0_2:Bool} {a0_3:Sl3} {a0_4:Int} {a0_5:Sl3} {a0_6:ByteArray} {a0_7 a0_8 a0_9:Int} {a0_10:ByteArray} {a0_11 a0_12:Sl3} {a0_13 a0_14:Sl3} {a1_0:Int} {a1_1 a1_2:Bool} {a1_3:Sl3} {a1_4:Int} {a1_5:Sl3} {a1_6:ByteArray} {a1_7 a1_8 a1_9:Int} {a1_10:ByteArray} {a1_11 a1_12:Sl3} {a1_13 a1_14:Sl3} {r:(Int×AH)} (h:Y1 L m H a0_0 a0_1 a0_2 a0_3 a0_4 a0_5 a0_6 a0_7 a0_8 a0_9 a0_10 a0_11 a0_12 a0_13 a0_14 a1_0 a1_1 a1_2 a1_3 a1_4 a1_5 a1_6 a1_7 a1_8 a1_9 a1_10 a1_11 a1_12 a1_13 a1_14=some r) :
  CallS Tryz.prog (NE.plain 99) m 4 #[(vA #[(vI .i64 a0_0),(vB a0_1),(vB a0_2),(Sl3.v a0_3),(vI .i64 a0_4),(Sl3.v a0_5),(vS a0_6),(vI .i64 a0_7),(vI .i64 a0_8),(vI .i64 a0_9),(vS a0_10),(Sl3.v a0_11),(Sl3.v a0_12),(Sl3.v a0_13),(Sl3.v a0_14)]),(vA #[(vI .i64 a1_0),(vB a1_1),(vB a1_2),(Sl3.v a1_3),(vI .i64 a1_4),(Sl3.v a1_5),(vS a1_6),(vI .i64 a1_7),(vI .i64 a1_8),(vI .i64 a1_9),(vS a1_10),(Sl3.v a1_11),(Sl3.v a1_12),(Sl3.v a1_13),(Sl3.v a1_14)])] H (A3 r) (G3 H r) :=
 (zb2 _) _ _ _ _ _ _ _ _ _ _ _ _ _ _ _ _ _ _ _ _ _ _ _ _ _ _ _ _ _ _ _ _ _ h
noncomputable def B139:Code:=(Tryz.f139.body).getD .skip
def zaa:((Option Addr)×AH)→Value
 | (r0,_)=>(vP r0)
def zbe (_:AH):((Option Addr)×AH)→AH:=fun r=>r.2
noncomputable def z2q (L:LC) (m:Nat) (H:AH) (a0_0 a0_1 a0_2:Sl3) (a1:Int):Option ((Option Addr)×AH) :=
 (z28 L m H a0_0 a0_1 a0_2).bind fun (x1,H2) => (N7 L m H2 x1).bind fun (x3,H4) => (newM H4).bind fun (p5,H6) => (newB 249 [(vP x1),(vI .i64 a1),(Sl3.v x3),(Value.map (some p5))] H6).bind fun (p7,H8) => some ((some p7),H8)
theorem zaq {L:LC} {m:Nat} {H:AH} {a0_0 a0_1 a0_2:Sl3} {a1:Int} {r:((Option Addr)×AH)} (h:z2q L m H a0_0 a0_1 a0_2 a1=some r) :
  CallS Tryz.prog (NE.plain 99) m 139 #[(vA #[(Sl3.v a0_0),(Sl3.v a0_1),(Sl3.v a0_2)]),(vI .i64 a1)] H (zaa r) (zbe H r):=by
 refine CallS.mk (args:=[(vA #[(Sl3.v a0_0),(Sl3.v a0_1),(Sl3.v a0_2)]),(vI .i64 a1)]) Tryz.func139 (B:=B139) (by kernel_rfl) (fun E _=>?_);unfold z2q at h;refine t0 (A0 (O0 2 [(4,.val (vP none)),kL 2 0 0] ([some (62,[(Sl3.v a0_0),(Sl3.v a0_1),(Sl3.v a0_2)])]) (u0 (m0 (t0 (A0 (g0 1 [kA 6 #[(Sl3.v a0_0),(Sl3.v a0_1),(Sl3.v a0_2)]] ?_)))))));obtain ⟨⟨x1,H2⟩,hx,h⟩:=bind_some h;try dsimp only at h
 refine RS.cl (some 7) (v:=(vP x1)) 54 _ (z4p hx) (g0 1 [(5,.val (vP x1))] (u0 (m0 (t0 (A0 (g0 3 [(10,.val (vP x1)),kI 9 a1,(8,.val (vP x1))] ?_))))));obtain ⟨⟨x3,H4⟩,hx,h⟩:=bind_some h;try dsimp only at h
 refine RS.cl (some 11) (v:=(Sl3.v x3)) 57 _ (z2h hx) ?_;obtain ⟨⟨p5,H6⟩,hx,h⟩:=bind_some h;try dsimp only at h
 refine T0 (H':=H6) (some 12) (Value.map (some p5)) (Abs.run_newM (by kernel_rfl) hx) (g0 1 [kA 13 #[(vP x1),(vI .i64 a1),(Sl3.v x3),(Value.map (some p5))]] ?_);obtain ⟨⟨p7,H8⟩,hx,h⟩:=bind_some h;try dsimp only at h
 refine T0 (H':=H8) (some 14) (vP (some p7)) (Abs.run_newB (by kernel_rfl) hx) (g0 1 [kP 4 p7] (u0 (m0 (C0 ?_))));cases h;exact fun a w hs=>rtR (rS hs)
noncomputable def B140:Code:=(Tryz.f140.body).getD .skip
def L6:(Int×AH)→Value
 | (r0,_)=>(vI .i64 r0)
def i7 (_:AH):(Int×AH)→AH:=fun r=>r.2
noncomputable def u6 (_L:LC) (_m:Nat) (H:AH) (a0:Option Addr) (a1_0 _a1_1:Int) (_a1_2:ByteArray) (_a1_3:Sl3):Option (Int×AH) :=
 if a1_0=1 then
  a0.bind fun q1 => (rd (deI .i64) H (Addr.add q1 1)).bind fun x2 => if 2 > x2 then
   none
  else
   some (2,H)
 else
  none
noncomputable def S9 (L:LC) (n:Nat):(Nat→AH→(Option Addr)→Int→Int→ByteArray→Sl3→Option (Int×AH)):=Nat.rec (motive:=fun _=>(Nat→AH→(Option Addr)→Int→Int→ByteArray→Sl3→Option (Int×AH))) (fun _ _ _ _ _ _ _=>none) (fun _ _=>u6 L) n
noncomputable def z3d (L:LC) (m:Nat) (H:AH) (a0:Option Addr) (a1_0 a1_1:Int) (a1_2:ByteArray) (a1_3:Sl3):Option (Int×AH):=(S9 L L.fuel) m H a0 a1_0 a1_1 a1_2 a1_3
theorem z3o {L:LC} {m:Nat} {H:AH} {a0:Option Addr} {a1_0 a1_1:Int} {a1_2:ByteArray} {a1_3:Sl3} {r:(Int×AH)} (h:u6 L m H a0 a1_0 a1_1 a1_2 a1_3=some r) :
  CallS Tryz.prog (NE.plain 99) m 140 #[(vP a0),(vA #[(vI .i64 a1_0),(vI .i64 a1_1),(vS a1_2),(Sl3.v a1_3)])] H (L6 r) (i7 H r):=by
 refine CallS.mk (args:=[(vP a0),(vA #[(vI .i64 a1_0),(vI .i64 a1_1),(vS a1_2),(Sl3.v a1_3)])]) Tryz.func140 (B:=B140) (by kernel_rfl) (fun E _=>?_);unfold u6 at h;refine t0 (A0 (O0 2 [kI 4 0,kL 3 0 0] ([some (32,[(vI .i64 a1_0),(vI .i64 a1_1),(vS a1_2),(Sl3.v a1_3)])]) (u0 (m0 (t0 (A0 (g0 1 [kI 5 0] (u0 (m0 ?_)))))))));refine t0 (t0 (A0 (g0 2 [kI 10 a1_0,kL 9 0 0] (u0 (m0 (P0 0 (t0 (A0 (g0 2 [kB 11 (decide (a1_0=1)),kB 12 (decide (a1_0=1))] ?_)))))))));refine u0 (m0 ?_);rcases J1 h with ⟨hp,h⟩ | ⟨hp,h⟩
 ·refine B0 11 true (decide_eq_true hp) (E0 (A0 (g0 1 [kI 5 2] (u0 ?_))));refine fun a w hs=>bkN ((m0 ?_ a w hs));refine t0 (t0 (A0 (g0 2 [(74,.val (vP a0)),kI 73 2] ?_)));obtain ⟨q1,hx,hq1⟩:=bind_some h;subst hx;have h:=hq1;refine g0 2 [(76,.val (vP (some (Addr.add q1 1)))),kP 75 q1] ?_;obtain ⟨x2,hx,h⟩:=bind_some h;refine D1 77 3 (.tmp 76) (I1 hx N1) (g0 1 [kB 78 (decide (2 > x2))] (u0 (m0 ?_)));rcases J1 h with ⟨hp,h⟩ | ⟨hp,h⟩
  ·refine B0 78 true (decide_eq_true hp) (E0 ?_);cases h
  ·refine B0 78 false (decide_eq_false hp) (D0 (M0 (m0 (t0 (A0 (g0 2 [kI 4 2,kI 79 2] (u0 (m0 (C0 ?_)))))))));cases h;exact fun a w hs=>rtR (rS hs)
 ·refine B0 11 false (decide_eq_false hp) (D0 ?_);cases h
theorem z4t {L:LC}:∀n,(∀(m:Nat) (H:AH) (a0:Option Addr) (a1_0 a1_1:Int) (a1_2:ByteArray) (a1_3:Sl3) (r:(Int×AH)),((S9 L n)) m H a0 a1_0 a1_1 a1_2 a1_3=some r→CallS Tryz.prog (NE.plain 99) m 140 #[(vP a0),(vA #[(vI .i64 a1_0),(vI .i64 a1_1),(vS a1_2),(Sl3.v a1_3)])] H (L6 r) (i7 H r)):=by
 intro n;induction n with
 | zero=>exact (fun _ _ _ _ _ _ _ _ h=>(Option.some_ne_none _ h.symm).elim)
 | succ n ih=>exact (fun _ _ _ _ _ _ _ _ h=>z3o (L:=L)  h)
theorem z70 {L:LC} {m:Nat} {H:AH} {a0:Option Addr} {a1_0 a1_1:Int} {a1_2:ByteArray} {a1_3:Sl3} {r:(Int×AH)} (h:z3d L m H a0 a1_0 a1_1 a1_2 a1_3=some r) :
  CallS Tryz.prog (NE.plain 99) m 140 #[(vP a0),(vA #[(vI .i64 a1_0),(vI .i64 a1_1),(vS a1_2),(Sl3.v a1_3)])] H (L6 r) (i7 H r) :=
 (z4t _) _ _ _ _ _ _ _ _ h
noncomputable def B122:Code:=(Tryz.f122.body).getD .skip
def z60:(Int×Bool×AH)→Value
 | (r0,r1,_)=>(Value.tuple #[(vI .i64 r0),(vB r1)])
def z7k (_:AH):(Int×Bool×AH)→AH:=fun r=>r.2.2
noncomputable def zm (L:LC) (m:Nat) (H:AH) (a0_0 a0_1:Int) (a0_2:ByteArray) (a0_3 a1_0:Sl3) (a1_1 a1_2:Sl3) (a2:Int):Option (Int×Bool×AH) :=
 if a2<1 then
  none
 else
  (C9 L m H a1_0 a1_1 a1_2).bind fun (x1,H2) => if x1=0 then
   (z3q L m H2 a0_0 a0_1 a0_2 a0_3 a1_0 a1_1 a1_2).bind fun (x3,H4) => if x3=0 then
    (z2q L (Nat.max m H4.next) H4 a1_0 a1_1 a1_2 a2).bind fun (x5,H6) => (z3d L m H6 x5 a0_0 a0_1 a0_2 a0_3).bind fun (x7,H8) => some (x7,(decide (x7 > 0)),H8)
   else
    none
  else
   none
theorem z2o {L:LC} {m:Nat} {H:AH} {a0_0 a0_1:Int} {a0_2:ByteArray} {a0_3 a1_0:Sl3} {a1_1 a1_2:Sl3} {a2:Int} {r:(Int×Bool×AH)} (h:zm L m H a0_0 a0_1 a0_2 a0_3 a1_0 a1_1 a1_2 a2=some r) :
  CallS Tryz.prog (NE.plain 99) m 122 #[(vA #[(vI .i64 a0_0),(vI .i64 a0_1),(vS a0_2),(Sl3.v a0_3)]),(vA #[(Sl3.v a1_0),(Sl3.v a1_1),(Sl3.v a1_2)]),(vI .i64 a2)] H (z60 r) (z7k H r):=by
 refine CallS.mk (args:=[(vA #[(vI .i64 a0_0),(vI .i64 a0_1),(vS a0_2),(Sl3.v a0_3)]),(vA #[(Sl3.v a1_0),(Sl3.v a1_1),(Sl3.v a1_2)]),(vI .i64 a2)]) Tryz.func122 (B:=B122) (by kernel_rfl) (fun E _=>?_);unfold zm at h;refine t0 (A0 (O0 4 [kB 7 false,kI 6 0,kL 4 1 0,kL 3 0 0] ([some (32,[(vI .i64 a0_0),(vI .i64 a0_1),(vS a0_2),(Sl3.v a0_3)]),some (62,[(Sl3.v a1_0),(Sl3.v a1_1),(Sl3.v a1_2)])]) (u0 (m0 (t0 (t0 (A0 (g0 3 [kB 11 (decide (a2<1)),kB 10 (decide (a2<1)),kI 9 a2] ?_))))))));rcases J1 h with ⟨hp,h⟩ | ⟨hp,h⟩
 ·refine F0 11 true (decide_eq_true hp) ?_;cases h
 ·refine F0 11 false (decide_eq_false hp) (g0 1 [kA 12 #[(Sl3.v a1_0),(Sl3.v a1_1),(Sl3.v a1_2)]] ?_);obtain ⟨⟨x1,H2⟩,hx,h⟩:=bind_some h;try dsimp only at h
  refine RS.cl (some 13) (v:=(vI .i64 x1)) 35 _ (z4d hx) (g0 3 [kB 16 (!decide (x1=0)),kB 15 (!decide (x1=0)),kB 14 (!decide (x1=0))] ?_);rcases J1 h with ⟨hp,h⟩ | ⟨hp,h⟩
  ·refine F0 16 false (C2 hp) (g0 2 [kA 18 #[(Sl3.v a1_0),(Sl3.v a1_1),(Sl3.v a1_2)],kA 17 #[(vI .i64 a0_0),(vI .i64 a0_1),(vS a0_2),(Sl3.v a0_3)]] ?_);obtain ⟨⟨x3,H4⟩,hx,h⟩:=bind_some h;try dsimp only at h
   refine RS.cl (some 19) (v:=(vI .i64 x3)) 36 _ (z7r hx) (g0 2 [kB 21 (!decide (x3=0)),kB 20 (!decide (x3=0))] (u0 (m0 ?_)));rcases J1 h with ⟨hp,h⟩ | ⟨hp,h⟩
   ·refine B0 21 false (C2 hp) (D0 (M0 (m0 (t0 ?_))));refine C1 [0,3] [0,0,3,0,15,31] 6 (fun hcl=>?_);refine Q0 0 (some 22) (.val (vA #[(Sl3.v a1_0),(Sl3.v a1_1),(Sl3.v a1_2)])) (Q0 3 (some 25) (.val (vA #[(vI .i64 a0_0),(vI .i64 a0_1),(vS a0_2),(Sl3.v a0_3)])) (N0 1 (some 23) (vI .i64 a2) ?_));obtain ⟨⟨x5,H6⟩,hx,h⟩:=bind_some h;try dsimp only at h
    refine DA.on 2 (A1 2 (some 24) false (v:=(vP x5)) 139 #[(vA #[(Sl3.v a1_0),(Sl3.v a1_1),(Sl3.v a1_2)]),(vI .i64 a2)] (zaq hx) ?_);obtain ⟨⟨x7,H8⟩,hx,h⟩:=bind_some h;try dsimp only at h
    refine DA.on 4 (J0 4 (some 26) (v:=(vI .i64 x7)) 140 #[(vP x5),(vA #[(vI .i64 a0_0),(vI .i64 a0_1),(vS a0_2),(Sl3.v a0_3)])] (z70 hx) (N0 5 (some 8) (vI .i64 x7) (K0 (m0 (t0 (A0 (g0 5 [kB 7 (decide (x7 > 0)),kI 6 x7,kB 29 (decide (x7 > 0)),kI 28 x7,kI 27 x7] (u0 (m0 ?_)))))))));refine C0 ?_;cases h;exact fun a w hs=>rtR (rS hs)
   ·refine B0 21 true (A2 hp) (E0 ?_);cases h
  ·refine F0 16 true (A2 hp) ?_;cases h
noncomputable def B167:Code:=(Tryz.f167.body).getD .skip
def b7:AH→Value
 | _=>(Value.tuple #[])
def l7 (_:AH):AH→AH:=fun r=>r
noncomputable def L3 (L:LC):Nat→FuncId→Array Value→AH→Option (Value×AH) :=
 orN
noncomputable def W4 (L:LC) (m:Nat) (H:AH) (a0:Sl3) (a1 a2:Int):Option AH :=
 byRun Tryz.prog 99 (L3 L) m 167 #[(Sl3.v a0),(vI .i64 a1),(vI .i64 a2),(Value.func (.func 142) #[] #[])] H (dcT dcN) fun _ H2=>H2
theorem t7 {L:LC}:OrOK Tryz.prog (NE.plain 99) (L3 L):=by
 unfold L3;exact orN_ok
theorem j7 {L:LC} {m:Nat} {H:AH} {a0:Sl3} {a1 a2:Int} {r:AH} (h:W4 L m H a0 a1 a2=some r) :
  CallS Tryz.prog (NE.plain 99) m 167 #[(Sl3.v a0),(vI .i64 a1),(vI .i64 a2),(Value.func (.func 142) #[] #[])] H (b7 r) (l7 H r):=by
 obtain ⟨_,H2,rfl,hc⟩:=z4f t7 Tryz.func167 (show Tryz.f167.body=some B167 by kernel_rfl) h;exact hc
noncomputable def B160:Code:=(Tryz.f160.body).getD .skip
def U3:AH→Value
 | _=>(Value.tuple #[])
def Z3 (_:AH):AH→AH:=fun r=>r
noncomputable def X3 (_L:LC) (_a0:Sl3) (a1:Int):(AH×Int×Int)→Option (Lp (AH×Int×Int) AH):=fun (H1,v7_2,v8_3) =>
 if v8_3≤a1 then
  none
 else
  some (.brk (H1,v7_2,v8_3))
def N8 (_L:LC) (a0:Sl3) (a1:Int):(AH×Int×Int)→KN×Lcs:=fun (_,v7_2,v8_3)=>([kI 7 v7_2,kI 8 v8_3,kS 0 a0,kI 1 a1,(2,.val (Value.func (.func 142) #[] #[])),kI 6 20],[])
noncomputable def Y3 (_L:LC) (_a0:Sl3) (a1:Int):(AH×Int)→Option (Lp (AH×Int) AH):=fun (H8,v6_9) =>
 if v6_9<a1 then
  none
 else
  some (.brk (H8,v6_9))
def G8 (_L:LC) (a0:Sl3) (a1:Int):(AH×Int)→KN×Lcs:=fun (_,v6_9)=>([kI 6 v6_9,kS 0 a0,kI 1 a1,(2,.val (Value.func (.func 142) #[] #[]))],[])
noncomputable def J4 (L:LC) (m:Nat) (H:AH) (a0:Sl3) (a1:Int):Option AH :=
 (L.run (X3 L a0 a1) (H,0,20)).bind fun o=>match o with
 | .inl (H4,v7_5,_) =>
  (W4 L m H4 a0 v7_5 a1).bind fun H7 => (L.run (Y3 L a0 a1) (H7,20)).bind fun o=>match o with
  | .inl (H10,_) =>
   some H10
  | .inr r=>some r
 | .inr r=>some r
theorem j5 {E m H L a0 a1} :LoopF Tryz.prog (NE.plain 99) m E Tryz.f160 ((cfst (cfst (csnd (csnd B160))))) (N8 L a0 a1) (fun s=>s.1) 0 U3 (Z3 H) (X3 L a0 a1):=by
 rintro ⟨H1,v7_2,v8_3⟩ o h
 unfold X3 at h;try dsimp only at h
 refine t0 (t0 (A0 (g0 3 [kB 13 (decide (v8_3≤a1)),kI 12 a1,kI 11 v8_3] (u0 (m0 ?_)))));rcases J1 h with ⟨hp,h⟩ | ⟨hp,h⟩
 ·refine B0 13 true (decide_eq_true hp) (E0 ?_);cases h
 ·refine B0 13 false (decide_eq_false hp) (D0 (WS.ex 0 ?_));cases h;exact fun a w hs=>sqE (lsB rfl (hs.sb 0))
theorem o5 {E m H L a0 a1} :LoopF Tryz.prog (NE.plain 99) m E Tryz.f160 ((cfst (csnd (csnd (csnd (csnd B160)))))) (G8 L a0 a1) (fun s=>s.1) 2 U3 (Z3 H) (Y3 L a0 a1):=by
 rintro ⟨H8,v6_9⟩ o h
 unfold Y3 at h;try dsimp only at h
 refine t0 (t0 (A0 (g0 3 [kB 30 (decide (v6_9<a1)),kI 29 a1,kI 28 v6_9] (u0 (m0 ?_)))));rcases J1 h with ⟨hp,h⟩ | ⟨hp,h⟩
 ·refine B0 30 true (decide_eq_true hp) (E0 ?_);cases h
 ·refine B0 30 false (decide_eq_false hp) (D0 (WS.ex 2 ?_));cases h;exact fun a w hs=>sqE (lsB rfl (hs.sb 0))
theorem N9 {L:LC} {m:Nat} {H:AH} {a0:Sl3} {a1:Int} {r:AH} (h:J4 L m H a0 a1=some r) :
  CallS Tryz.prog (NE.plain 99) m 160 #[(Sl3.v a0),(vI .i64 a1),(Value.func (.func 142) #[] #[])] H (U3 r) (Z3 H r):=by
 refine CallS.mk (args:=[(Sl3.v a0),(vI .i64 a1),(Value.func (.func 142) #[] #[])]) Tryz.func160 (B:=B160) (by kernel_rfl) (fun E _=>?_);unfold J4 at h;refine t0 (A0 (g0 1 [kI 6 20] (u0 (m0 (t0 (A0 (g0 3 [kI 8 20,kI 7 0,kI 10 20] (u0 (m0 ?_)))))))));refine t0 (P0 0 ?_);obtain ⟨o,hl,h⟩:=bind_some h;rcases o with ⟨H4,v7_5,v8_6⟩ | r
 ·try dsimp only at h
  refine Y0 (j5 (L:=L) (E:=E) (m:=m) (H:=H)) (L.ok hl) 0 ?_;clear hl;refine fun a w hs=>bkE ((m0 ?_ a w hs));refine t0 (A0 (g0 4 [(26,.val (Value.func (.func 142) #[] #[])),kI 25 a1,kI 24 v7_5,kS 23 a0] ?_));obtain ⟨H7,hx,h⟩:=bind_some h;refine RS.cl (some 27) (v:=(Value.tuple #[])) 167 _ (j7 hx) (u0 (m0 (P0 2 ?_)));obtain ⟨o,hl,h⟩:=bind_some h;rcases o with ⟨H10,v6_11⟩ | r
  ·try dsimp only at h
   refine Y0 (o5 (L:=L) (E:=E) (m:=m) (H:=H)) (L.ok hl) 0 ?_;clear hl;cases h;exact fun a w hs=>bkE (rtN (rS hs))
  ·try dsimp only at h
   refine X0 (o5 (L:=L) (E:=E) (m:=m) (H:=H)) (L.ok hl) 0 ?_;cases h;exact fun a w hq=>bkR (rtR hq)
 ·try dsimp only at h
  refine X0 (j5 (L:=L) (E:=E) (m:=m) (H:=H)) (L.ok hl) 0 ?_;cases h;exact fun a w hq=>bkR (sqR (rtR hq))
noncomputable def B141:Code:=(Tryz.f141.body).getD .skip
def Y8:AH→Value
 | _=>(Value.tuple #[])
def l9 (_:AH):AH→AH:=fun r=>r
noncomputable def D4 (L:LC) (m:Nat) (H:AH) (a0:Sl3):Option AH :=
 (J4 L m H a0 (a0.n:Int)).bind fun H1 => some H1
theorem i9 {L:LC} {m:Nat} {H:AH} {a0:Sl3} {r:AH} (h:D4 L m H a0=some r) :
  CallS Tryz.prog (NE.plain 99) m 141 #[(Sl3.v a0),(Value.func (.func 142) #[] #[])] H (Y8 r) (l9 H r):=by
 refine CallS.mk (args:=[(Sl3.v a0),(Value.func (.func 142) #[] #[])]) Tryz.func141 (B:=B141) (by kernel_rfl) (fun E _=>?_);unfold D4 at h;refine A0 (g0 4 [(7,.val (Value.func (.func 142) #[] #[])),kI 6 (a0.n:Int),kS 5 a0,kS 4 a0] ?_);obtain ⟨H1,hx,h⟩:=bind_some h;refine RS.cl (some 8) (v:=(Value.tuple #[])) 160 _ (N9 hx) (u0 ?_);cases h;exact fun a w hs=>rtN (rS hs)
noncomputable def B123:Code:=(Tryz.f123.body).getD .skip
def O4:(Int×Bool×Bool×Sl3×Int×Sl3×ByteArray×Int×Int×Int×ByteArray×Sl3×Sl3×Sl3×Sl3×AH)→Value
 | (r0,r1,r2,r3,r4,r5,r6,r7,r8,r9,r10,r11,r12,r13,r14,_)=>(vA #[(vI .i64 r0),(vB r1),(vB r2),(Sl3.v r3),(vI .i64 r4),(Sl3.v r5),(vS r6),(vI .i64 r7),(vI .i64 r8),(vI .i64 r9),(vS r10),(Sl3.v r11),(Sl3.v r12),(Sl3.v r13),(Sl3.v r14)])
def U4 (_:AH):(Int×Bool×Bool×Sl3×Int×Sl3×ByteArray×Int×Int×Int×ByteArray×Sl3×Sl3×Sl3×Sl3×AH)→AH:=fun r=>r.2.2.2.2.2.2.2.2.2.2.2.2.2.2.2
noncomputable def X7 (_L:LC) (m:Nat) (a0:Sl3) (_a1_0:Int) (_a1_1 _a1_2:Bool) (_a1_3:Sl3) (_a1_4:Int) (_a1_5:Sl3) (_a1_6:ByteArray) (_a1_7 _a1_8 _a1_9:Int) (_a1_10:ByteArray) (_a1_11 _a1_12:Sl3) (_a1_13 _a1_14:Sl3):(AH×Sl3×Int)→Option (Lp (AH×Sl3×Int) (Int×Bool×Bool×Sl3×Int×Sl3×ByteArray×Int×Int×Int×ByteArray×Sl3×Sl3×Sl3×Sl3×AH)):=fun (H7,v7_8,v29_9) =>
 if v29_9<(a0.n:Int) then
  (idxA 30 a0 v29_9).bind fun p10 => (rd (deI .i64) H7 (Addr.add p10 0)).bind fun _ => (rd deB H7 (Addr.add p10 1)).bind fun _ => (rd deB H7 (Addr.add p10 2)).bind fun _ => (rd deSl H7 (Addr.add p10 3)).bind fun _ => (rd (deI .i64) H7 (Addr.add p10 4)).bind fun _ => (rd deSl H7 (Addr.add p10 5)).bind fun _ => (rd deS H7 (Addr.add p10 6)).bind fun _ => (rd (deI .i64) H7 (Addr.add p10 7)).bind fun _ => (rd (deI .i64) H7 (Addr.add p10 8)).bind fun _ => (rd (deI .i64) H7 (Addr.add p10 9)).bind fun _ => (rd deS H7 (Addr.add p10 10)).bind fun _ => (rd deSl H7 (Addr.add p10 11)).bind fun _ => (rd deSl H7 (Addr.add p10 12)).bind fun _ => (rd deSl H7 (Addr.add p10 13)).bind fun _ => (rd deSl H7 (Addr.add p10 14)).bind fun _ => (rd (deI .i64) H7 (Addr.add p10 15)).bind fun x11_15 => (rd deB H7 (Addr.add p10 16)).bind fun x11_16 => (rd deB H7 (Addr.add p10 17)).bind fun x11_17 => (rd deSl H7 (Addr.add p10 18)).bind fun x11_18 => (rd (deI .i64) H7 (Addr.add p10 19)).bind fun x11_19 => (rd deSl H7 (Addr.add p10 20)).bind fun x11_20 => (rd deS H7 (Addr.add p10 21)).bind fun x11_21 => (rd (deI .i64) H7 (Addr.add p10 22)).bind fun x11_22 => (rd (deI .i64) H7 (Addr.add p10 23)).bind fun x11_23 => (rd (deI .i64) H7 (Addr.add p10 24)).bind fun x11_24 => (rd deS H7 (Addr.add p10 25)).bind fun x11_25 => (rd deSl H7 (Addr.add p10 26)).bind fun x11_26 => (rd deSl H7 (Addr.add p10 27)).bind fun x11_27 => (rd deSl H7 (Addr.add p10 28)).bind fun x11_28 => (rd deSl H7 (Addr.add p10 29)).bind fun x11_29 => (newR 231 1 #[(vI .i64 x11_15),(vB x11_16),(vB x11_17),(Sl3.v x11_18),(vI .i64 x11_19),(Sl3.v x11_20),(vS x11_21),(vI .i64 x11_22),(vI .i64 x11_23),(vI .i64 x11_24),(vS x11_25),(Sl3.v x11_26),(Sl3.v x11_27),(Sl3.v x11_28),(Sl3.v x11_29),(vI .i64 1)] H7).bind fun (s12,H13) => (appS m 231 16 240 H13 v7_8 s12).bind fun (s14,H15) => some (.next (H15,s14,(IntKind.i64.wrap (v29_9+1))))
 else
  some (.brk (H7,v7_8,v29_9))
def z6f (_L:LC) (_m:Nat) (a0:Sl3) (a1_0:Int) (a1_1 a1_2:Bool) (a1_3:Sl3) (a1_4:Int) (a1_5:Sl3) (a1_6:ByteArray) (a1_7 a1_8 a1_9:Int) (a1_10:ByteArray) (a1_11 a1_12:Sl3) (a1_13 a1_14:Sl3):(AH×Sl3×Int)→KN×Lcs:=fun (_,v7_8,v29_9)=>([kS 7 v7_8,kI 29 v29_9,kL 4 0 0,kL 6 1 0,kS 27 a0,kI 28 (a0.n:Int)],[some (36,[(vI .i64 a1_0),(vB a1_1),(vB a1_2),(Sl3.v a1_3),(vI .i64 a1_4),(Sl3.v a1_5),(vS a1_6),(vI .i64 a1_7),(vI .i64 a1_8),(vI .i64 a1_9),(vS a1_10),(Sl3.v a1_11),(Sl3.v a1_12),(Sl3.v a1_13),(Sl3.v a1_14)]),some (36,[(vI .i64 0),(vB false),(vB false),(Sl3.v Sl3.nil),(vI .i64 0),(Sl3.v Sl3.nil),(vS (⟨#[]⟩:ByteArray)),(vI .i64 0),(vI .i64 0),(vI .i64 0),(vS (⟨#[]⟩:ByteArray)),(Sl3.v Sl3.nil),(Sl3.v Sl3.nil),(Sl3.v Sl3.nil),(Sl3.v Sl3.nil)])])
noncomputable def i8 (L:LC) (m:Nat) (_a1_0:Int) (_a1_1 _a1_2:Bool) (_a1_3:Sl3) (_a1_4:Int) (_a1_5:Sl3) (_a1_6:ByteArray) (_a1_7 _a1_8 _a1_9:Int) (_a1_10:ByteArray) (_a1_11 _a1_12:Sl3) (_a1_13 _a1_14 v7_17:Sl3) (_w2_22:Int) (_w2_23 _w2_24:Bool) (_w2_25:Sl3) (_w2_26:Int) (_w2_27:Sl3) (_w2_28:ByteArray) (_w2_29 _w2_30 _w2_31:Int) (_w2_32:ByteArray) (_w2_33 _w2_34:Sl3) (_w2_35 _w2_36:Sl3) (_w2_37:Int):(AH×Int×Int×Bool×Bool×Sl3×Int×Sl3×ByteArray×Int×Int×Int×ByteArray×Sl3×Sl3×Sl3×Sl3×Int)→Option (Lp (AH×Int×Int×Bool×Bool×Sl3×Int×Sl3×ByteArray×Int×Int×Int×ByteArray×Sl3×Sl3×Sl3×Sl3×Int) (Int×Bool×Bool×Sl3×Int×Sl3×ByteArray×Int×Int×Int×ByteArray×Sl3×Sl3×Sl3×Sl3×AH)):=fun (H40,v11_41,w3_42,w3_43,w3_44,w3_45,w3_46,w3_47,w3_48,w3_49,w3_50,w3_51,w3_52,w3_53,w3_54,w3_55,w3_56,w3_57) =>
 Option.bind (α:=(AH×Bool)) (
  if v11_41<(v7_17.n:Int) then
   (idxA 16 v7_17 v11_41).bind fun p60 => (rd (deI .i64) H40 (Addr.add (Addr.add p60 0) 0)).bind fun x61_0 => (rd deB H40 (Addr.add (Addr.add p60 0) 1)).bind fun x61_1 => (rd deB H40 (Addr.add (Addr.add p60 0) 2)).bind fun x61_2 => (rd deSl H40 (Addr.add (Addr.add p60 0) 3)).bind fun x61_3 => (rd (deI .i64) H40 (Addr.add (Addr.add p60 0) 4)).bind fun x61_4 => (rd deSl H40 (Addr.add (Addr.add p60 0) 5)).bind fun x61_5 => (rd deS H40 (Addr.add (Addr.add p60 0) 6)).bind fun x61_6 => (rd (deI .i64) H40 (Addr.add (Addr.add p60 0) 7)).bind fun x61_7 => (rd (deI .i64) H40 (Addr.add (Addr.add p60 0) 8)).bind fun x61_8 => (rd (deI .i64) H40 (Addr.add (Addr.add p60 0) 9)).bind fun x61_9 => (rd deS H40 (Addr.add (Addr.add p60 0) 10)).bind fun x61_10 => (rd deSl H40 (Addr.add (Addr.add p60 0) 11)).bind fun x61_11 => (rd deSl H40 (Addr.add (Addr.add p60 0) 12)).bind fun x61_12 => (rd deSl H40 (Addr.add (Addr.add p60 0) 13)).bind fun x61_13 => (rd deSl H40 (Addr.add (Addr.add p60 0) 14)).bind fun x61_14 => (Y1 L m H40 x61_0 x61_1 x61_2 x61_3 x61_4 x61_5 x61_6 x61_7 x61_8 x61_9 x61_10 x61_11 x61_12 x61_13 x61_14 w3_42 w3_43 w3_44 w3_45 w3_46 w3_47 w3_48 w3_49 w3_50 w3_51 w3_52 w3_53 w3_54 w3_55 w3_56).bind fun (x62,H63) => some (H63,(decide (x62=0)))
  else
   some (H40,false)) fun (H58,v68_59) =>
 if v68_59=true then
  (idxA 16 v7_17 v11_41).bind fun p64 => (rd (deI .i64) H58 (Addr.add p64 15)).bind fun x65 => some (.next (H58,(IntKind.i64.wrap (v11_41+1)),w3_42,w3_43,w3_44,w3_45,w3_46,w3_47,w3_48,w3_49,w3_50,w3_51,w3_52,w3_53,w3_54,w3_55,w3_56,(IntKind.i64.wrap (w3_57+x65))))
 else
  some (.brk (H58,v11_41,w3_42,w3_43,w3_44,w3_45,w3_46,w3_47,w3_48,w3_49,w3_50,w3_51,w3_52,w3_53,w3_54,w3_55,w3_56,w3_57))
def z64 (_L:LC) (_m:Nat) (a1_0:Int) (a1_1 a1_2:Bool) (a1_3:Sl3) (a1_4:Int) (a1_5:Sl3) (a1_6:ByteArray) (a1_7 a1_8 a1_9:Int) (a1_10:ByteArray) (a1_11 a1_12:Sl3) (a1_13 a1_14 v7_17:Sl3) (w2_22:Int) (w2_23 w2_24:Bool) (w2_25:Sl3) (w2_26:Int) (w2_27:Sl3) (w2_28:ByteArray) (w2_29 w2_30 w2_31:Int) (w2_32:ByteArray) (w2_33 w2_34:Sl3) (w2_35 w2_36:Sl3) (w2_37:Int):(AH×Int×Int×Bool×Bool×Sl3×Int×Sl3×ByteArray×Int×Int×Int×ByteArray×Sl3×Sl3×Sl3×Sl3×Int)→KN×Lcs:=fun (_,v11_41,w3_42,w3_43,w3_44,w3_45,w3_46,w3_47,w3_48,w3_49,w3_50,w3_51,w3_52,w3_53,w3_54,w3_55,w3_56,w3_57)=>([kI 11 v11_41,kL 6 1 0,kS 7 v7_17,kL 10 2 0,kL 12 3 0],[some (36,[(vI .i64 a1_0),(vB a1_1),(vB a1_2),(Sl3.v a1_3),(vI .i64 a1_4),(Sl3.v a1_5),(vS a1_6),(vI .i64 a1_7),(vI .i64 a1_8),(vI .i64 a1_9),(vS a1_10),(Sl3.v a1_11),(Sl3.v a1_12),(Sl3.v a1_13),(Sl3.v a1_14)]),some (36,[(vI .i64 0),(vB false),(vB false),(Sl3.v Sl3.nil),(vI .i64 0),(Sl3.v Sl3.nil),(vS (⟨#[]⟩:ByteArray)),(vI .i64 0),(vI .i64 0),(vI .i64 0),(vS (⟨#[]⟩:ByteArray)),(Sl3.v Sl3.nil),(Sl3.v Sl3.nil),(Sl3.v Sl3.nil),(Sl3.v Sl3.nil)]),some (231,[(vI .i64 w2_22),(vB w2_23),(vB w2_24),(Sl3.v w2_25),(vI .i64 w2_26),(Sl3.v w2_27),(vS w2_28),(vI .i64 w2_29),(vI .i64 w2_30),(vI .i64 w2_31),(vS w2_32),(Sl3.v w2_33),(Sl3.v w2_34),(Sl3.v w2_35),(Sl3.v w2_36),(vI .i64 w2_37)]),some (231,[(vI .i64 w3_42),(vB w3_43),(vB w3_44),(Sl3.v w3_45),(vI .i64 w3_46),(Sl3.v w3_47),(vS w3_48),(vI .i64 w3_49),(vI .i64 w3_50),(vI .i64 w3_51),(vS w3_52),(Sl3.v w3_53),(Sl3.v w3_54),(Sl3.v w3_55),(Sl3.v w3_56),(vI .i64 w3_57)])])
noncomputable def g8 (L:LC) (m:Nat) (a1_0:Int) (a1_1 a1_2:Bool) (a1_3:Sl3) (a1_4:Int) (a1_5:Sl3) (a1_6:ByteArray) (a1_7 a1_8 a1_9:Int) (a1_10:ByteArray) (a1_11 a1_12:Sl3) (a1_13 a1_14 v7_17:Sl3):(AH×Int×Int×Bool×Bool×Sl3×Int×Sl3×ByteArray×Int×Int×Int×ByteArray×Sl3×Sl3×Sl3×Sl3×Int)→Option (Lp (AH×Int×Int×Bool×Bool×Sl3×Int×Sl3×ByteArray×Int×Int×Int×ByteArray×Sl3×Sl3×Sl3×Sl3×Int) (Int×Bool×Bool×Sl3×Int×Sl3×ByteArray×Int×Int×Int×ByteArray×Sl3×Sl3×Sl3×Sl3×AH)):=fun (H20,v11_21,w2_22,w2_23,w2_24,w2_25,w2_26,w2_27,w2_28,w2_29,w2_30,w2_31,w2_32,w2_33,w2_34,w2_35,w2_36,w2_37) =>
 if v11_21<(v7_17.n:Int) then
  (idxA 16 v7_17 v11_21).bind fun p38 => (rd (deI .i64) H20 (Addr.add (Addr.add p38 0) 0)).bind fun x39_0 => (rd deB H20 (Addr.add (Addr.add p38 0) 1)).bind fun x39_1 => (rd deB H20 (Addr.add (Addr.add p38 0) 2)).bind fun x39_2 => (rd deSl H20 (Addr.add (Addr.add p38 0) 3)).bind fun x39_3 => (rd (deI .i64) H20 (Addr.add (Addr.add p38 0) 4)).bind fun x39_4 => (rd deSl H20 (Addr.add (Addr.add p38 0) 5)).bind fun x39_5 => (rd deS H20 (Addr.add (Addr.add p38 0) 6)).bind fun x39_6 => (rd (deI .i64) H20 (Addr.add (Addr.add p38 0) 7)).bind fun x39_7 => (rd (deI .i64) H20 (Addr.add (Addr.add p38 0) 8)).bind fun x39_8 => (rd (deI .i64) H20 (Addr.add (Addr.add p38 0) 9)).bind fun x39_9 => (rd deS H20 (Addr.add (Addr.add p38 0) 10)).bind fun x39_10 => (rd deSl H20 (Addr.add (Addr.add p38 0) 11)).bind fun x39_11 => (rd deSl H20 (Addr.add (Addr.add p38 0) 12)).bind fun x39_12 => (rd deSl H20 (Addr.add (Addr.add p38 0) 13)).bind fun x39_13 => (rd deSl H20 (Addr.add (Addr.add p38 0) 14)).bind fun x39_14 => (L.run (i8 L m a1_0 a1_1 a1_2 a1_3 a1_4 a1_5 a1_6 a1_7 a1_8 a1_9 a1_10 a1_11 a1_12 a1_13 a1_14 v7_17 w2_22 w2_23 w2_24 w2_25 w2_26 w2_27 w2_28 w2_29 w2_30 w2_31 w2_32 w2_33 w2_34 w2_35 w2_36 w2_37) (H20,v11_21,x39_0,x39_1,x39_2,x39_3,x39_4,x39_5,x39_6,x39_7,x39_8,x39_9,x39_10,x39_11,x39_12,x39_13,x39_14,0)).bind fun o=>match o with
  | .inl (H66,v11_67,w3_68,w3_69,w3_70,w3_71,w3_72,w3_73,w3_74,w3_75,w3_76,w3_77,w3_78,w3_79,w3_80,w3_81,w3_82,w3_83) =>
   if w3_83 > w2_37 then
    some (.next (H66,v11_67,w3_68,w3_69,w3_70,w3_71,w3_72,w3_73,w3_74,w3_75,w3_76,w3_77,w3_78,w3_79,w3_80,w3_81,w3_82,w3_83))
   else
    some (.next (H66,v11_67,w2_22,w2_23,w2_24,w2_25,w2_26,w2_27,w2_28,w2_29,w2_30,w2_31,w2_32,w2_33,w2_34,w2_35,w2_36,w2_37))
  | .inr r=>some (.ret r)
 else
  some (.brk (H20,v11_21,w2_22,w2_23,w2_24,w2_25,w2_26,w2_27,w2_28,w2_29,w2_30,w2_31,w2_32,w2_33,w2_34,w2_35,w2_36,w2_37))
def z6j (_L:LC) (_m:Nat) (a1_0:Int) (a1_1 a1_2:Bool) (a1_3:Sl3) (a1_4:Int) (a1_5:Sl3) (a1_6:ByteArray) (a1_7 a1_8 a1_9:Int) (a1_10:ByteArray) (a1_11 a1_12:Sl3) (a1_13 a1_14 v7_17:Sl3):(AH×Int×Int×Bool×Bool×Sl3×Int×Sl3×ByteArray×Int×Int×Int×ByteArray×Sl3×Sl3×Sl3×Sl3×Int)→KN×Lcs:=fun (_,v11_21,w2_22,w2_23,w2_24,w2_25,w2_26,w2_27,w2_28,w2_29,w2_30,w2_31,w2_32,w2_33,w2_34,w2_35,w2_36,w2_37)=>([kI 11 v11_21,kL 6 1 0,kS 7 v7_17,kL 10 2 0],[some (36,[(vI .i64 a1_0),(vB a1_1),(vB a1_2),(Sl3.v a1_3),(vI .i64 a1_4),(Sl3.v a1_5),(vS a1_6),(vI .i64 a1_7),(vI .i64 a1_8),(vI .i64 a1_9),(vS a1_10),(Sl3.v a1_11),(Sl3.v a1_12),(Sl3.v a1_13),(Sl3.v a1_14)]),some (36,[(vI .i64 0),(vB false),(vB false),(Sl3.v Sl3.nil),(vI .i64 0),(Sl3.v Sl3.nil),(vS (⟨#[]⟩:ByteArray)),(vI .i64 0),(vI .i64 0),(vI .i64 0),(vS (⟨#[]⟩:ByteArray)),(Sl3.v Sl3.nil),(Sl3.v Sl3.nil),(Sl3.v Sl3.nil),(Sl3.v Sl3.nil)]),some (231,[(vI .i64 w2_22),(vB w2_23),(vB w2_24),(Sl3.v w2_25),(vI .i64 w2_26),(Sl3.v w2_27),(vS w2_28),(vI .i64 w2_29),(vI .i64 w2_30),(vI .i64 w2_31),(vS w2_32),(Sl3.v w2_33),(Sl3.v w2_34),(Sl3.v w2_35),(Sl3.v w2_36),(vI .i64 w2_37)])])
noncomputable def Q7 (L:LC) (m:Nat) (H:AH) (a0:Sl3) (a1_0:Int) (a1_1 a1_2:Bool) (a1_3:Sl3) (a1_4:Int) (a1_5:Sl3) (a1_6:ByteArray) (a1_7 a1_8 a1_9:Int) (a1_10:ByteArray) (a1_11 a1_12:Sl3) (a1_13 a1_14:Sl3) (a2:Int):Option (Int×Bool×Bool×Sl3×Int×Sl3×ByteArray×Int×Int×Int×ByteArray×Sl3×Sl3×Sl3×Sl3×AH) :=
 (newR 231 0 #[] H).bind fun (s1,H2) => if a2 > (a0.n:Int) then
  Option.bind (newR 231 1 #[(vI .i64 a1_0),(vB a1_1),(vB a1_2),(Sl3.v a1_3),(vI .i64 a1_4),(Sl3.v a1_5),(vS a1_6),(vI .i64 a1_7),(vI .i64 a1_8),(vI .i64 a1_9),(vS a1_10),(Sl3.v a1_11),(Sl3.v a1_12),(Sl3.v a1_13),(Sl3.v a1_14),(vI .i64 (IntKind.i64.wrap (a2 - (a0.n:Int))))] H2) fun (s3,H4) => (appS m 231 16 240 H4 s1 s3).bind fun (s5,H6) => (L.run (X7 L m a0 a1_0 a1_1 a1_2 a1_3 a1_4 a1_5 a1_6 a1_7 a1_8 a1_9 a1_10 a1_11 a1_12 a1_13 a1_14) (H6,s5,0)).bind fun o=>match o with
  | .inl (H16,v7_17,_) =>
   (D4 L m H16 v7_17).bind fun H19 => (L.run (g8 L m a1_0 a1_1 a1_2 a1_3 a1_4 a1_5 a1_6 a1_7 a1_8 a1_9 a1_10 a1_11 a1_12 a1_13 a1_14 v7_17) (H19,0,a1_0,a1_1,a1_2,a1_3,a1_4,a1_5,a1_6,a1_7,a1_8,a1_9,a1_10,a1_11,a1_12,a1_13,a1_14,0)).bind fun o=>match o with
   | .inl (H84,_,w2_86,w2_87,w2_88,w2_89,w2_90,w2_91,w2_92,w2_93,w2_94,w2_95,w2_96,w2_97,w2_98,w2_99,w2_100,_) =>
    some (w2_86,w2_87,w2_88,w2_89,w2_90,w2_91,w2_92,w2_93,w2_94,w2_95,w2_96,w2_97,w2_98,w2_99,w2_100,H84)
   | .inr r=>some r
  | .inr r=>some r
 else
  none
theorem X9 {E H L m a0 a1_0 a1_1 a1_2 a1_3 a1_4 a1_5 a1_6 a1_7 a1_8 a1_9 a1_10 a1_11 a1_12 a1_13 a1_14} :LoopF Tryz.prog (NE.plain 99) m E Tryz.f123 ((cfst (csnd (cfst (csnd (csnd (csnd B123))))))) (z6f L m a0 a1_0 a1_1 a1_2 a1_3 a1_4 a1_5 a1_6 a1_7 a1_8 a1_9 a1_10 a1_11 a1_12 a1_13 a1_14) (fun s=>s.1) 0 O4 (U4 H) (X7 L m a0 a1_0 a1_1 a1_2 a1_3 a1_4 a1_5 a1_6 a1_7 a1_8 a1_9 a1_10 a1_11 a1_12 a1_13 a1_14):=by
 rintro ⟨H7,v7_8,v29_9⟩ o h
 unfold X7 at h;try dsimp only at h
 refine t0 (A0 (g0 1 [kB 30 (decide (v29_9<(a0.n:Int)))] (u0 (m0 (t0 ?_)))));rcases J1 h with ⟨hp,h⟩ | ⟨hp,h⟩
 ·refine B0 30 true (decide_eq_true hp) (E0 (M0 (m0 (t0 (P0 1 (t0 (A0 ?_)))))));obtain ⟨p10,hx,h⟩:=bind_some h;refine RS.ix 31 34 48 (.tmp 27) (.tmp 29) hx ?_;obtain ⟨x11_0,hx0,h⟩:=bind_some h;obtain ⟨x11_1,hx1,h⟩:=bind_some h;obtain ⟨x11_2,hx2,h⟩:=bind_some h;obtain ⟨x11_3,hx3,h⟩:=bind_some h;obtain ⟨x11_4,hx4,h⟩:=bind_some h;obtain ⟨x11_5,hx5,h⟩:=bind_some h;obtain ⟨x11_6,hx6,h⟩:=bind_some h;obtain ⟨x11_7,hx7,h⟩:=bind_some h;obtain ⟨x11_8,hx8,h⟩:=bind_some h;obtain ⟨x11_9,hx9,h⟩:=bind_some h;obtain ⟨x11_10,hx10,h⟩:=bind_some h;obtain ⟨x11_11,hx11,h⟩:=bind_some h;obtain ⟨x11_12,hx12,h⟩:=bind_some h;obtain ⟨x11_13,hx13,h⟩:=bind_some h;obtain ⟨x11_14,hx14,h⟩:=bind_some h;obtain ⟨x11_15,hx15,h⟩:=bind_some h;obtain ⟨x11_16,hx16,h⟩:=bind_some h;obtain ⟨x11_17,hx17,h⟩:=bind_some h;obtain ⟨x11_18,hx18,h⟩:=bind_some h;obtain ⟨x11_19,hx19,h⟩:=bind_some h;obtain ⟨x11_20,hx20,h⟩:=bind_some h;obtain ⟨x11_21,hx21,h⟩:=bind_some h;obtain ⟨x11_22,hx22,h⟩:=bind_some h;obtain ⟨x11_23,hx23,h⟩:=bind_some h;obtain ⟨x11_24,hx24,h⟩:=bind_some h;obtain ⟨x11_25,hx25,h⟩:=bind_some h;obtain ⟨x11_26,hx26,h⟩:=bind_some h;obtain ⟨x11_27,hx27,h⟩:=bind_some h;obtain ⟨x11_28,hx28,h⟩:=bind_some h;obtain ⟨x11_29,hx29,h⟩:=bind_some h;refine E1 32 48 (.tmp 31) 30 (G1 (I1 hx0 N1) (G1 (I1 hx1 j2) (G1 (I1 hx2 j2) (G1 (I1 hx3 M1) (G1 (I1 hx4 N1) (G1 (I1 hx5 M1) (G1 (I1 hx6 X1) (G1 (I1 hx7 N1) (G1 (I1 hx8 N1) (G1 (I1 hx9 N1) (G1 (I1 hx10 X1) (G1 (I1 hx11 M1) (G1 (I1 hx12 M1) (G1 (I1 hx13 M1) (G1 (I1 hx14 M1) (G1 (I1 hx15 N1) (G1 (I1 hx16 j2) (G1 (I1 hx17 j2) (G1 (I1 hx18 M1) (G1 (I1 hx19 N1) (G1 (I1 hx20 M1) (G1 (I1 hx21 X1) (G1 (I1 hx22 N1) (G1 (I1 hx23 N1) (G1 (I1 hx24 N1) (G1 (I1 hx25 X1) (G1 (I1 hx26 M1) (G1 (I1 hx27 M1) (G1 (I1 hx28 M1) (G1 (I1 hx29 M1) T2)))))))))))))))))))))))))))))) (O0 2 [kL 9 2 0] ([some (36,[(vI .i64 a1_0),(vB a1_1),(vB a1_2),(Sl3.v a1_3),(vI .i64 a1_4),(Sl3.v a1_5),(vS a1_6),(vI .i64 a1_7),(vI .i64 a1_8),(vI .i64 a1_9),(vS a1_10),(Sl3.v a1_11),(Sl3.v a1_12),(Sl3.v a1_13),(Sl3.v a1_14)]),some (36,[(vI .i64 0),(vB false),(vB false),(Sl3.v Sl3.nil),(vI .i64 0),(Sl3.v Sl3.nil),(vS (⟨#[]⟩:ByteArray)),(vI .i64 0),(vI .i64 0),(vI .i64 0),(vS (⟨#[]⟩:ByteArray)),(Sl3.v Sl3.nil),(Sl3.v Sl3.nil),(Sl3.v Sl3.nil),(Sl3.v Sl3.nil)]),some (48,[(vI .i64 x11_0),(vB x11_1),(vB x11_2),(Sl3.v x11_3),(vI .i64 x11_4),(Sl3.v x11_5),(vS x11_6),(vI .i64 x11_7),(vI .i64 x11_8),(vI .i64 x11_9),(vS x11_10),(Sl3.v x11_11),(Sl3.v x11_12),(Sl3.v x11_13),(Sl3.v x11_14),(vI .i64 x11_15),(vB x11_16),(vB x11_17),(Sl3.v x11_18),(vI .i64 x11_19),(Sl3.v x11_20),(vS x11_21),(vI .i64 x11_22),(vI .i64 x11_23),(vI .i64 x11_24),(vS x11_25),(Sl3.v x11_26),(Sl3.v x11_27),(Sl3.v x11_28),(Sl3.v x11_29)])]) (u0 (m0 (A0 (g0 4 [kA 36 #[(vI .i64 x11_15),(vB x11_16),(vB x11_17),(Sl3.v x11_18),(vI .i64 x11_19),(Sl3.v x11_20),(vS x11_21),(vI .i64 x11_22),(vI .i64 x11_23),(vI .i64 x11_24),(vS x11_25),(Sl3.v x11_26),(Sl3.v x11_27),(Sl3.v x11_28),(Sl3.v x11_29),(vI .i64 1)],kA 35 #[(vI .i64 x11_15),(vB x11_16),(vB x11_17),(Sl3.v x11_18),(vI .i64 x11_19),(Sl3.v x11_20),(vS x11_21),(vI .i64 x11_22),(vI .i64 x11_23),(vI .i64 x11_24),(vS x11_25),(Sl3.v x11_26),(Sl3.v x11_27),(Sl3.v x11_28),(Sl3.v x11_29)],kL 34 2 15,kS 33 v7_8] ?_)))));obtain ⟨⟨s12,H13⟩,hx,h⟩:=bind_some h;try dsimp only at h
  refine T0 (H':=H13) (some 37) (Sl3.v s12) (Abs.run_newR (by kernel_rfl) (by kernel_rfl) hx) ?_;obtain ⟨⟨s14,H15⟩,hx,h⟩:=bind_some h;try dsimp only at h
  refine T0 (H':=H15) (some 38) (Sl3.v s14) (Abs.run_app (x:=.tmp 33) (y:=.tmp 37) (ts:=#[229,229]) (s:=v7_8) (z:=s12) (by kernel_rfl) (by kernel_rfl) (by kernel_rfl) (by kernel_rfl) hx) (g0 1 [kS 7 s14] (u0 ?_));refine fun a w hs=>bkN ((m0 ?_ a w hs));refine A0 (g0 2 [kI 29 (IntKind.i64.wrap (v29_9+1)),kI 39 (IntKind.i64.wrap (v29_9+1))] (u0 ?_));cases h;exact fun a w hs=>lsN rfl (hs.sb 2)
 ·refine B0 30 false (decide_eq_false hp) (D0 (WS.ex 0 ?_));cases h;exact fun a w hs=>sqE (lsB rfl (hs.sb 2))
theorem z2 {E H L m a1_0 a1_1 a1_2 a1_3 a1_4 a1_5 a1_6 a1_7 a1_8 a1_9 a1_10 a1_11 a1_12 a1_13 a1_14 v7_17 w2_22 w2_23 w2_24 w2_25 w2_26 w2_27 w2_28 w2_29 w2_30 w2_31 w2_32 w2_33 w2_34 w2_35 w2_36 w2_37} :LoopF Tryz.prog (NE.plain 99) m E Tryz.f123 ((cfst (cfst (csnd (cfst (csnd (cfst (cfst (csnd (cfst (csnd (csnd (csnd (csnd (csnd (csnd B123)))))))))))))))) (z64 L m a1_0 a1_1 a1_2 a1_3 a1_4 a1_5 a1_6 a1_7 a1_8 a1_9 a1_10 a1_11 a1_12 a1_13 a1_14 v7_17 w2_22 w2_23 w2_24 w2_25 w2_26 w2_27 w2_28 w2_29 w2_30 w2_31 w2_32 w2_33 w2_34 w2_35 w2_36 w2_37) (fun s=>s.1) 4 O4 (U4 H) (i8 L m a1_0 a1_1 a1_2 a1_3 a1_4 a1_5 a1_6 a1_7 a1_8 a1_9 a1_10 a1_11 a1_12 a1_13 a1_14 v7_17 w2_22 w2_23 w2_24 w2_25 w2_26 w2_27 w2_28 w2_29 w2_30 w2_31 w2_32 w2_33 w2_34 w2_35 w2_36 w2_37):=by
 rintro ⟨H40,v11_41,w3_42,w3_43,w3_44,w3_45,w3_46,w3_47,w3_48,w3_49,w3_50,w3_51,w3_52,w3_53,w3_54,w3_55,w3_56,w3_57⟩ o h
 unfold i8 at h;try dsimp only at h
 refine t0 ?_;obtain ⟨⟨H58,v68_59⟩,hx,h⟩:=bind_some h;try dsimp only at h
 refine t0 ?_;refine WS.join ([kB 68 v68_59,kL 6 1 0,kS 7 v7_17,kL 10 2 0,kI 11 v11_41,kL 12 3 0]) ([some (36,[(vI .i64 a1_0),(vB a1_1),(vB a1_2),(Sl3.v a1_3),(vI .i64 a1_4),(Sl3.v a1_5),(vS a1_6),(vI .i64 a1_7),(vI .i64 a1_8),(vI .i64 a1_9),(vS a1_10),(Sl3.v a1_11),(Sl3.v a1_12),(Sl3.v a1_13),(Sl3.v a1_14)]),some (36,[(vI .i64 0),(vB false),(vB false),(Sl3.v Sl3.nil),(vI .i64 0),(Sl3.v Sl3.nil),(vS (⟨#[]⟩:ByteArray)),(vI .i64 0),(vI .i64 0),(vI .i64 0),(vS (⟨#[]⟩:ByteArray)),(Sl3.v Sl3.nil),(Sl3.v Sl3.nil),(Sl3.v Sl3.nil),(Sl3.v Sl3.nil)]),some (231,[(vI .i64 w2_22),(vB w2_23),(vB w2_24),(Sl3.v w2_25),(vI .i64 w2_26),(Sl3.v w2_27),(vS w2_28),(vI .i64 w2_29),(vI .i64 w2_30),(vI .i64 w2_31),(vS w2_32),(Sl3.v w2_33),(Sl3.v w2_34),(Sl3.v w2_35),(Sl3.v w2_36),(vI .i64 w2_37)]),some (231,[(vI .i64 w3_42),(vB w3_43),(vB w3_44),(Sl3.v w3_45),(vI .i64 w3_46),(Sl3.v w3_47),(vS w3_48),(vI .i64 w3_49),(vI .i64 w3_50),(vI .i64 w3_51),(vS w3_52),(Sl3.v w3_53),(Sl3.v w3_54),(Sl3.v w3_55),(Sl3.v w3_56),(vI .i64 w3_57)])]) H58 ?_ (fun a w hs=>m0 ?_ a w hs)
 ·clear h; rename _=>h;refine C1 [0,1,2,3,4,5,6,7,8,9,10,11] [0,0,2,7,15,31,31,127,255,511,31,1055,4095,8191,16383] 15 (fun hcl=>?_);refine S0 0 (some 54) (vI .i64 v11_41) (S0 1 (some 55) (Sl3.v v7_17) (S0 2 (some 56) (vI .i64 (v7_17.n:Int)) (S0 3 (some 57) (vB (decide (v11_41<(v7_17.n:Int)))) (S0 4 (some 58) (vB (decide (v11_41<(v7_17.n:Int)))) ?_))));rcases J1 h with ⟨hp,h⟩ | ⟨hp,h⟩
  ·refine F1 58 true (decide_eq_true hp) (S0 5 (some 59) (Sl3.v v7_17) (S0 6 (some 60) (vI .i64 v11_41) ?_));obtain ⟨p60,hx,h⟩:=bind_some h;refine Z0 7 (some 61) (vP (some p60)) (Abs.det_idx (s:=v7_17) (k:=.i64) (t:=229) (e:=231) (x:=.tmp 59) (y:=.tmp 60) (by kernel_rfl) (by kernel_rfl) (by kernel_rfl) (by kernel_rfl) (by kernel_rfl) hx) (S0 8 (some 62) (vP (some (Addr.add p60 0))) ?_);obtain ⟨x61_0,hx0,h⟩:=bind_some h;obtain ⟨x61_1,hx1,h⟩:=bind_some h;obtain ⟨x61_2,hx2,h⟩:=bind_some h;obtain ⟨x61_3,hx3,h⟩:=bind_some h;obtain ⟨x61_4,hx4,h⟩:=bind_some h;obtain ⟨x61_5,hx5,h⟩:=bind_some h;obtain ⟨x61_6,hx6,h⟩:=bind_some h;obtain ⟨x61_7,hx7,h⟩:=bind_some h;obtain ⟨x61_8,hx8,h⟩:=bind_some h;obtain ⟨x61_9,hx9,h⟩:=bind_some h;obtain ⟨x61_10,hx10,h⟩:=bind_some h;obtain ⟨x61_11,hx11,h⟩:=bind_some h;obtain ⟨x61_12,hx12,h⟩:=bind_some h;obtain ⟨x61_13,hx13,h⟩:=bind_some h;obtain ⟨x61_14,hx14,h⟩:=bind_some h;refine Z0 9 (some 63) (vA #[(vI .i64 x61_0),(vB x61_1),(vB x61_2),(Sl3.v x61_3),(vI .i64 x61_4),(Sl3.v x61_5),(vS x61_6),(vI .i64 x61_7),(vI .i64 x61_8),(vI .i64 x61_9),(vS x61_10),(Sl3.v x61_11),(Sl3.v x61_12),(Sl3.v x61_13),(Sl3.v x61_14)]) (Abs.det_loadA (t:=36) (x:=.tmp 62) (a:=(Addr.add p60 0)) (k:=15) (by kernel_rfl) (by kernel_rfl) (by kernel_rfl) (by kernel_rfl) (G1 (I1 hx0 N1) (G1 (I1 hx1 j2) (G1 (I1 hx2 j2) (G1 (I1 hx3 M1) (G1 (I1 hx4 N1) (G1 (I1 hx5 M1) (G1 (I1 hx6 X1) (G1 (I1 hx7 N1) (G1 (I1 hx8 N1) (G1 (I1 hx9 N1) (G1 (I1 hx10 X1) (G1 (I1 hx11 M1) (G1 (I1 hx12 M1) (G1 (I1 hx13 M1) (G1 (I1 hx14 M1) T2)))))))))))))))) (Q0 10 (some 64) (.loc 3 0) (Q0 11 (some 65) (.val (vA #[(vI .i64 w3_42),(vB w3_43),(vB w3_44),(Sl3.v w3_45),(vI .i64 w3_46),(Sl3.v w3_47),(vS w3_48),(vI .i64 w3_49),(vI .i64 w3_50),(vI .i64 w3_51),(vS w3_52),(Sl3.v w3_53),(Sl3.v w3_54),(Sl3.v w3_55),(Sl3.v w3_56)])) ?_));obtain ⟨⟨x62,H63⟩,hx,h⟩:=bind_some h;try dsimp only at h
   refine DA.on 12 (J0 12 (some 66) (v:=(vI .i64 x62)) 4 #[(vA #[(vI .i64 x61_0),(vB x61_1),(vB x61_2),(Sl3.v x61_3),(vI .i64 x61_4),(Sl3.v x61_5),(vS x61_6),(vI .i64 x61_7),(vI .i64 x61_8),(vI .i64 x61_9),(vS x61_10),(Sl3.v x61_11),(Sl3.v x61_12),(Sl3.v x61_13),(Sl3.v x61_14)]),(vA #[(vI .i64 w3_42),(vB w3_43),(vB w3_44),(Sl3.v w3_45),(vI .i64 w3_46),(Sl3.v w3_47),(vS w3_48),(vI .i64 w3_49),(vI .i64 w3_50),(vI .i64 w3_51),(vS w3_52),(Sl3.v w3_53),(Sl3.v w3_54),(Sl3.v w3_55),(Sl3.v w3_56)])] (T1 hx) (N0 13 (some 67) (vB (decide (x62=0))) (N0 14 (some 68) (vB (decide (x62=0))) (K0 ?_))));cases h;exact fun a w hs=>(jsN (hs.sb 4))
  ·refine F1 58 false (decide_eq_false hp) ?_;refine DA.tskipD 5 (some 59) (by kernel_rfl) (by kernel_rfl) (by kernel_rfl) hcl (fun _ _ _ h=>h) (by kernel_rfl) ?_;refine DA.tskipD 6 (some 60) (by kernel_rfl) (by kernel_rfl) (by kernel_rfl) hcl (fun _ _ _ h=>h) (by kernel_rfl) ?_;refine DA.tskipD 7 (some 61) (by kernel_rfl) (by kernel_rfl) (by kernel_rfl) hcl (fun _ _ _ h=>h) (by kernel_rfl) ?_;refine DA.tskipD 8 (some 62) (by kernel_rfl) (by kernel_rfl) (by kernel_rfl) hcl (fun _ _ _ h=>h) (by kernel_rfl) ?_;refine DA.tskipD 9 (some 63) (by kernel_rfl) (by kernel_rfl) (by kernel_rfl) hcl (fun _ _ _ h=>h) (by kernel_rfl) ?_;refine DA.tskipD 10 (some 64) (by kernel_rfl) (by kernel_rfl) (by kernel_rfl) hcl (fun _ _ _ h=>h) (by kernel_rfl) ?_;refine DA.tskipD 11 (some 65) (by kernel_rfl) (by kernel_rfl) (by kernel_rfl) hcl (fun _ _ _ h=>h) (by kernel_rfl) ?_;refine DA.tskipP 12 (some 66) (by kernel_rfl) (by kernel_rfl) (by kernel_rfl) hcl (fun _ _ _ h=>h) (by kernel_rfl) ?_;refine DA.tskipP 13 (some 67) (by kernel_rfl) (by kernel_rfl) (by kernel_rfl) hcl (fun _ _ _ h=>h) (by kernel_rfl) ?_;refine N0 14 (some 68) (vB false) (K0 ?_);cases h;exact fun a w hs=>(jsN (hs.sb 4))
 ·clear hx;rcases J1 h with ⟨hp,h⟩ | ⟨hp,h⟩
  ·refine B0 68 true hp (E0 (M0 (m0 (P0 5 (t0 ?_)))));refine C1 [0,1,2,3,4,5,6] [0,1,0,0,12,28,60,127,255,511] 10 (fun hcl=>?_);refine Q0 0 (some 69) (.loc 3 15) (Q0 1 (some 70) (.val (vI .i64 w3_57)) (S0 2 (some 71) (Sl3.v v7_17) (S0 3 (some 72) (vI .i64 v11_41) ?_)));obtain ⟨p64,hx,h⟩:=bind_some h;refine Z0 4 (some 73) (vP (some p64)) (Abs.det_idx (s:=v7_17) (k:=.i64) (t:=229) (e:=231) (x:=.tmp 71) (y:=.tmp 72) (by kernel_rfl) (by kernel_rfl) (by kernel_rfl) (by kernel_rfl) (by kernel_rfl) hx) (S0 5 (some 74) (vP (some (Addr.add p64 15))) ?_);obtain ⟨x65,hx,h⟩:=bind_some h;refine Z0 6 (some 75) (vI .i64 x65) (Abs.det_load (t:=3) (x:=.tmp 74) (a:=(Addr.add p64 15)) (by kernel_rfl) (by kernel_rfl) (by kernel_rfl) (by kernel_rfl) (I1 hx N1)) (N0 7 (some 76) (vI .i64 (IntKind.i64.wrap (w3_57+x65))) (DA.tPL 8 (some 77) (.loc 3 15) (DA.on 9 (I0 9 none (.val undef) ([some (36,[(vI .i64 a1_0),(vB a1_1),(vB a1_2),(Sl3.v a1_3),(vI .i64 a1_4),(Sl3.v a1_5),(vS a1_6),(vI .i64 a1_7),(vI .i64 a1_8),(vI .i64 a1_9),(vS a1_10),(Sl3.v a1_11),(Sl3.v a1_12),(Sl3.v a1_13),(Sl3.v a1_14)]),some (36,[(vI .i64 0),(vB false),(vB false),(Sl3.v Sl3.nil),(vI .i64 0),(Sl3.v Sl3.nil),(vS (⟨#[]⟩:ByteArray)),(vI .i64 0),(vI .i64 0),(vI .i64 0),(vS (⟨#[]⟩:ByteArray)),(Sl3.v Sl3.nil),(Sl3.v Sl3.nil),(Sl3.v Sl3.nil),(Sl3.v Sl3.nil)]),some (231,[(vI .i64 w2_22),(vB w2_23),(vB w2_24),(Sl3.v w2_25),(vI .i64 w2_26),(Sl3.v w2_27),(vS w2_28),(vI .i64 w2_29),(vI .i64 w2_30),(vI .i64 w2_31),(vS w2_32),(Sl3.v w2_33),(Sl3.v w2_34),(Sl3.v w2_35),(Sl3.v w2_36),(vI .i64 w2_37)]),some (231,[(vI .i64 w3_42),(vB w3_43),(vB w3_44),(Sl3.v w3_45),(vI .i64 w3_46),(Sl3.v w3_47),(vS w3_48),(vI .i64 w3_49),(vI .i64 w3_50),(vI .i64 w3_51),(vS w3_52),(Sl3.v w3_53),(Sl3.v w3_54),(Sl3.v w3_55),(Sl3.v w3_56),(vI .i64 (IntKind.i64.wrap (w3_57+x65)))])]) false (K0 (m0 (A0 (g0 3 [kI 11 (IntKind.i64.wrap (v11_41+1)),kI 79 (IntKind.i64.wrap (v11_41+1)),kI 78 v11_41] (u0 ?_)))))))));cases h;exact fun a w hs=>bkN (lsN rfl (hs.sb 4))
  ·refine B0 68 false (b_not hp) (D0 (WS.ex 4 ?_));cases h;exact fun a w hs=>sqE (lsB rfl (hs.sb 4))
theorem P9 {E H L m a1_0 a1_1 a1_2 a1_3 a1_4 a1_5 a1_6 a1_7 a1_8 a1_9 a1_10 a1_11 a1_12 a1_13 a1_14 v7_17} :LoopF Tryz.prog (NE.plain 99) m E Tryz.f123 ((cfst (csnd (cfst (csnd (csnd (csnd (csnd (csnd (csnd B123)))))))))) (z6j L m a1_0 a1_1 a1_2 a1_3 a1_4 a1_5 a1_6 a1_7 a1_8 a1_9 a1_10 a1_11 a1_12 a1_13 a1_14 v7_17) (fun s=>s.1) 2 O4 (U4 H) (g8 L m a1_0 a1_1 a1_2 a1_3 a1_4 a1_5 a1_6 a1_7 a1_8 a1_9 a1_10 a1_11 a1_12 a1_13 a1_14 v7_17):=by
 rintro ⟨H20,v11_21,w2_22,w2_23,w2_24,w2_25,w2_26,w2_27,w2_28,w2_29,w2_30,w2_31,w2_32,w2_33,w2_34,w2_35,w2_36,w2_37⟩ o h
 unfold g8 at h;try dsimp only at h
 refine t0 (t0 (A0 (g0 4 [kB 47 (decide (v11_21<(v7_17.n:Int))),kI 46 (v7_17.n:Int),kS 45 v7_17,kI 44 v11_21] (u0 (m0 ?_)))));rcases J1 h with ⟨hp,h⟩ | ⟨hp,h⟩
 ·refine B0 47 true (decide_eq_true hp) (E0 (M0 (m0 (P0 3 (t0 (A0 (g0 2 [kI 49 v11_21,kS 48 v7_17] ?_)))))));obtain ⟨p38,hx,h⟩:=bind_some h;refine RS.ix 50 229 231 (.tmp 48) (.tmp 49) hx (g0 1 [(51,.val (vP (some (Addr.add p38 0))))] ?_);obtain ⟨x39_0,hx0,h⟩:=bind_some h;obtain ⟨x39_1,hx1,h⟩:=bind_some h;obtain ⟨x39_2,hx2,h⟩:=bind_some h;obtain ⟨x39_3,hx3,h⟩:=bind_some h;obtain ⟨x39_4,hx4,h⟩:=bind_some h;obtain ⟨x39_5,hx5,h⟩:=bind_some h;obtain ⟨x39_6,hx6,h⟩:=bind_some h;obtain ⟨x39_7,hx7,h⟩:=bind_some h;obtain ⟨x39_8,hx8,h⟩:=bind_some h;obtain ⟨x39_9,hx9,h⟩:=bind_some h;obtain ⟨x39_10,hx10,h⟩:=bind_some h;obtain ⟨x39_11,hx11,h⟩:=bind_some h;obtain ⟨x39_12,hx12,h⟩:=bind_some h;obtain ⟨x39_13,hx13,h⟩:=bind_some h;obtain ⟨x39_14,hx14,h⟩:=bind_some h;refine E1 52 36 (.tmp 51) 15 (G1 (I1 hx0 N1) (G1 (I1 hx1 j2) (G1 (I1 hx2 j2) (G1 (I1 hx3 M1) (G1 (I1 hx4 N1) (G1 (I1 hx5 M1) (G1 (I1 hx6 X1) (G1 (I1 hx7 N1) (G1 (I1 hx8 N1) (G1 (I1 hx9 N1) (G1 (I1 hx10 X1) (G1 (I1 hx11 M1) (G1 (I1 hx12 M1) (G1 (I1 hx13 M1) (G1 (I1 hx14 M1) T2))))))))))))))) (O0 3 [kL 12 3 0,kA 53 #[(vI .i64 x39_0),(vB x39_1),(vB x39_2),(Sl3.v x39_3),(vI .i64 x39_4),(Sl3.v x39_5),(vS x39_6),(vI .i64 x39_7),(vI .i64 x39_8),(vI .i64 x39_9),(vS x39_10),(Sl3.v x39_11),(Sl3.v x39_12),(Sl3.v x39_13),(Sl3.v x39_14),(vI .i64 0)]] ([some (36,[(vI .i64 a1_0),(vB a1_1),(vB a1_2),(Sl3.v a1_3),(vI .i64 a1_4),(Sl3.v a1_5),(vS a1_6),(vI .i64 a1_7),(vI .i64 a1_8),(vI .i64 a1_9),(vS a1_10),(Sl3.v a1_11),(Sl3.v a1_12),(Sl3.v a1_13),(Sl3.v a1_14)]),some (36,[(vI .i64 0),(vB false),(vB false),(Sl3.v Sl3.nil),(vI .i64 0),(Sl3.v Sl3.nil),(vS (⟨#[]⟩:ByteArray)),(vI .i64 0),(vI .i64 0),(vI .i64 0),(vS (⟨#[]⟩:ByteArray)),(Sl3.v Sl3.nil),(Sl3.v Sl3.nil),(Sl3.v Sl3.nil),(Sl3.v Sl3.nil)]),some (231,[(vI .i64 w2_22),(vB w2_23),(vB w2_24),(Sl3.v w2_25),(vI .i64 w2_26),(Sl3.v w2_27),(vS w2_28),(vI .i64 w2_29),(vI .i64 w2_30),(vI .i64 w2_31),(vS w2_32),(Sl3.v w2_33),(Sl3.v w2_34),(Sl3.v w2_35),(Sl3.v w2_36),(vI .i64 w2_37)]),some (231,[(vI .i64 x39_0),(vB x39_1),(vB x39_2),(Sl3.v x39_3),(vI .i64 x39_4),(Sl3.v x39_5),(vS x39_6),(vI .i64 x39_7),(vI .i64 x39_8),(vI .i64 x39_9),(vS x39_10),(Sl3.v x39_11),(Sl3.v x39_12),(Sl3.v x39_13),(Sl3.v x39_14),(vI .i64 0)])]) (u0 (m0 (t0 (P0 4 ?_)))));obtain ⟨o,hl,h⟩:=bind_some h;rcases o with ⟨H66,v11_67,w3_68,w3_69,w3_70,w3_71,w3_72,w3_73,w3_74,w3_75,w3_76,w3_77,w3_78,w3_79,w3_80,w3_81,w3_82,w3_83⟩ | r
  ·try dsimp only at h
   refine Y0 (z2 (L:=L) (E:=E) (m:=m) (H:=H)) (L.ok hl) 4 ?_;clear hl;refine fun a w hs=>bkE ((m0 ?_ a w hs));refine t0 (A0 (g0 5 [kB 84 (decide (w3_83 > w2_37)),kI 83 w2_37,kL 82 2 15,kI 81 w3_83,kL 80 3 15] (u0 (m0 ?_))));rcases J1 h with ⟨hp,h⟩ | ⟨hp,h⟩
   ·refine B0 84 true (decide_eq_true hp) (E0 (A0 (O0 2 [kA 85 #[(vI .i64 w3_68),(vB w3_69),(vB w3_70),(Sl3.v w3_71),(vI .i64 w3_72),(Sl3.v w3_73),(vS w3_74),(vI .i64 w3_75),(vI .i64 w3_76),(vI .i64 w3_77),(vS w3_78),(Sl3.v w3_79),(Sl3.v w3_80),(Sl3.v w3_81),(Sl3.v w3_82),(vI .i64 w3_83)]] ([some (36,[(vI .i64 a1_0),(vB a1_1),(vB a1_2),(Sl3.v a1_3),(vI .i64 a1_4),(Sl3.v a1_5),(vS a1_6),(vI .i64 a1_7),(vI .i64 a1_8),(vI .i64 a1_9),(vS a1_10),(Sl3.v a1_11),(Sl3.v a1_12),(Sl3.v a1_13),(Sl3.v a1_14)]),some (36,[(vI .i64 0),(vB false),(vB false),(Sl3.v Sl3.nil),(vI .i64 0),(Sl3.v Sl3.nil),(vS (⟨#[]⟩:ByteArray)),(vI .i64 0),(vI .i64 0),(vI .i64 0),(vS (⟨#[]⟩:ByteArray)),(Sl3.v Sl3.nil),(Sl3.v Sl3.nil),(Sl3.v Sl3.nil),(Sl3.v Sl3.nil)]),some (231,[(vI .i64 w3_68),(vB w3_69),(vB w3_70),(Sl3.v w3_71),(vI .i64 w3_72),(Sl3.v w3_73),(vS w3_74),(vI .i64 w3_75),(vI .i64 w3_76),(vI .i64 w3_77),(vS w3_78),(Sl3.v w3_79),(Sl3.v w3_80),(Sl3.v w3_81),(Sl3.v w3_82),(vI .i64 w3_83)]),some (231,[(vI .i64 w3_68),(vB w3_69),(vB w3_70),(Sl3.v w3_71),(vI .i64 w3_72),(Sl3.v w3_73),(vS w3_74),(vI .i64 w3_75),(vI .i64 w3_76),(vI .i64 w3_77),(vS w3_78),(Sl3.v w3_79),(Sl3.v w3_80),(Sl3.v w3_81),(Sl3.v w3_82),(vI .i64 w3_83)])]) (u0 ?_))));cases h;exact fun a w hs=>bkN (lsN rfl (hs.sb 3))
   ·refine B0 84 false (decide_eq_false hp) (D0 (M0 ?_));cases h;exact fun a w hs=>bkN (lsN rfl (hs.sb 3))
  ·try dsimp only at h
   refine X0 (z2 (L:=L) (E:=E) (m:=m) (H:=H)) (L.ok hl) 4 ?_;cases h;exact fun a w hq=>bkR (sqR (bkR (lsR rfl hq)))
 ·refine B0 47 false (decide_eq_false hp) (D0 (WS.ex 2 ?_));cases h;exact fun a w hs=>sqE (lsB rfl (hs.sb 3))
theorem z26 {L:LC} {m:Nat} {H:AH} {a0:Sl3} {a1_0:Int} {a1_1 a1_2:Bool} {a1_3:Sl3} {a1_4:Int} {a1_5:Sl3} {a1_6:ByteArray} {a1_7 a1_8 a1_9:Int} {a1_10:ByteArray} {a1_11 a1_12:Sl3} {a1_13 a1_14:Sl3} {a2:Int} {r:(Int×Bool×Bool×Sl3×Int×Sl3×ByteArray×Int×Int×Int×ByteArray×Sl3×Sl3×Sl3×Sl3×AH)} (h:Q7 L m H a0 a1_0 a1_1 a1_2 a1_3 a1_4 a1_5 a1_6 a1_7 a1_8 a1_9 a1_10 a1_11 a1_12 a1_13 a1_14 a2=some r) :
  CallS Tryz.prog (NE.plain 99) m 123 #[(Sl3.v a0),(vA #[(vI .i64 a1_0),(vB a1_1),(vB a1_2),(Sl3.v a1_3),(vI .i64 a1_4),(Sl3.v a1_5),(vS a1_6),(vI .i64 a1_7),(vI .i64 a1_8),(vI .i64 a1_9),(vS a1_10),(Sl3.v a1_11),(Sl3.v a1_12),(Sl3.v a1_13),(Sl3.v a1_14)]),(vI .i64 a2)] H (O4 r) (U4 H r):=by
 refine CallS.mk (args:=[(Sl3.v a0),(vA #[(vI .i64 a1_0),(vB a1_1),(vB a1_2),(Sl3.v a1_3),(vI .i64 a1_4),(Sl3.v a1_5),(vS a1_6),(vI .i64 a1_7),(vI .i64 a1_8),(vI .i64 a1_9),(vS a1_10),(Sl3.v a1_11),(Sl3.v a1_12),(Sl3.v a1_13),(Sl3.v a1_14)]),(vI .i64 a2)]) Tryz.func123 (B:=B123) (by kernel_rfl) (fun E _=>?_);unfold Q7 at h;refine t0 (A0 (O0 2 [kL 6 1 0,kL 4 0 0] ([some (36,[(vI .i64 a1_0),(vB a1_1),(vB a1_2),(Sl3.v a1_3),(vI .i64 a1_4),(Sl3.v a1_5),(vS a1_6),(vI .i64 a1_7),(vI .i64 a1_8),(vI .i64 a1_9),(vS a1_10),(Sl3.v a1_11),(Sl3.v a1_12),(Sl3.v a1_13),(Sl3.v a1_14)]),some (36,[(vI .i64 0),(vB false),(vB false),(Sl3.v Sl3.nil),(vI .i64 0),(Sl3.v Sl3.nil),(vS (⟨#[]⟩:ByteArray)),(vI .i64 0),(vI .i64 0),(vI .i64 0),(vS (⟨#[]⟩:ByteArray)),(Sl3.v Sl3.nil),(Sl3.v Sl3.nil),(Sl3.v Sl3.nil),(Sl3.v Sl3.nil)])]) (u0 (m0 (t0 (A0 ?_))))));obtain ⟨⟨s1,H2⟩,hx,h⟩:=bind_some h;try dsimp only at h
 refine T0 (H':=H2) (some 13) (Sl3.v s1) (Abs.run_newR (by kernel_rfl) (by kernel_rfl) hx) (g0 1 [kS 7 s1] (u0 (m0 (t0 (t0 (A0 (g0 4 [kB 17 (decide (a2 > (a0.n:Int))),kI 16 (a0.n:Int),kS 15 a0,kI 14 a2] (u0 (m0 ?_)))))))));rcases J1 h with ⟨hp,h⟩ | ⟨hp,h⟩
 ·refine B0 17 true (decide_eq_true hp) (E0 (A0 (g0 7 [kA 24 #[(vI .i64 a1_0),(vB a1_1),(vB a1_2),(Sl3.v a1_3),(vI .i64 a1_4),(Sl3.v a1_5),(vS a1_6),(vI .i64 a1_7),(vI .i64 a1_8),(vI .i64 a1_9),(vS a1_10),(Sl3.v a1_11),(Sl3.v a1_12),(Sl3.v a1_13),(Sl3.v a1_14),(vI .i64 (IntKind.i64.wrap (a2 - (a0.n:Int))))],kI 23 (IntKind.i64.wrap (a2 - (a0.n:Int))),kI 22 (a0.n:Int),kS 21 a0,kI 20 a2,kA 19 #[(vI .i64 a1_0),(vB a1_1),(vB a1_2),(Sl3.v a1_3),(vI .i64 a1_4),(Sl3.v a1_5),(vS a1_6),(vI .i64 a1_7),(vI .i64 a1_8),(vI .i64 a1_9),(vS a1_10),(Sl3.v a1_11),(Sl3.v a1_12),(Sl3.v a1_13),(Sl3.v a1_14)],kS 18 s1] ?_)));obtain ⟨⟨s3,H4⟩,hx,h⟩:=bind_some h;try dsimp only at h
  refine T0 (H':=H4) (some 25) (Sl3.v s3) (Abs.run_newR (by kernel_rfl) (by kernel_rfl) hx) ?_;obtain ⟨⟨s5,H6⟩,hx,h⟩:=bind_some h;try dsimp only at h
  refine T0 (H':=H6) (some 26) (Sl3.v s5) (Abs.run_app (x:=.tmp 18) (y:=.tmp 25) (ts:=#[229,229]) (s:=s1) (z:=s3) (by kernel_rfl) (by kernel_rfl) (by kernel_rfl) (by kernel_rfl) hx) (g0 1 [kS 7 s5] (u0 (m0 (t0 (t0 (A0 (g0 3 [kI 29 0,kI 28 (a0.n:Int),kS 27 a0] (u0 (m0 ?_)))))))));refine P0 0 ?_;obtain ⟨o,hl,h⟩:=bind_some h;rcases o with ⟨H16,v7_17,v29_18⟩ | r
  ·try dsimp only at h
   refine Y0 (X9 (L:=L) (E:=E) (m:=m) (H:=H)) (L.ok hl) 2 ?_;clear hl;refine fun a w hs=>bkE ((m0 ?_ a w hs));refine t0 (A0 (g0 1 [kS 40 v7_17] ?_));obtain ⟨H19,hx,h⟩:=bind_some h;refine RS.cl (some 41) (v:=(Value.tuple #[])) 141 _ (i9 hx) (u0 (m0 (t0 (A0 (O0 4 [kL 10 2 0,kA 43 #[(vI .i64 a1_0),(vB a1_1),(vB a1_2),(Sl3.v a1_3),(vI .i64 a1_4),(Sl3.v a1_5),(vS a1_6),(vI .i64 a1_7),(vI .i64 a1_8),(vI .i64 a1_9),(vS a1_10),(Sl3.v a1_11),(Sl3.v a1_12),(Sl3.v a1_13),(Sl3.v a1_14),(vI .i64 0)],kA 42 #[(vI .i64 a1_0),(vB a1_1),(vB a1_2),(Sl3.v a1_3),(vI .i64 a1_4),(Sl3.v a1_5),(vS a1_6),(vI .i64 a1_7),(vI .i64 a1_8),(vI .i64 a1_9),(vS a1_10),(Sl3.v a1_11),(Sl3.v a1_12),(Sl3.v a1_13),(Sl3.v a1_14)]] ([some (36,[(vI .i64 a1_0),(vB a1_1),(vB a1_2),(Sl3.v a1_3),(vI .i64 a1_4),(Sl3.v a1_5),(vS a1_6),(vI .i64 a1_7),(vI .i64 a1_8),(vI .i64 a1_9),(vS a1_10),(Sl3.v a1_11),(Sl3.v a1_12),(Sl3.v a1_13),(Sl3.v a1_14)]),some (36,[(vI .i64 0),(vB false),(vB false),(Sl3.v Sl3.nil),(vI .i64 0),(Sl3.v Sl3.nil),(vS (⟨#[]⟩:ByteArray)),(vI .i64 0),(vI .i64 0),(vI .i64 0),(vS (⟨#[]⟩:ByteArray)),(Sl3.v Sl3.nil),(Sl3.v Sl3.nil),(Sl3.v Sl3.nil),(Sl3.v Sl3.nil)]),some (231,[(vI .i64 a1_0),(vB a1_1),(vB a1_2),(Sl3.v a1_3),(vI .i64 a1_4),(Sl3.v a1_5),(vS a1_6),(vI .i64 a1_7),(vI .i64 a1_8),(vI .i64 a1_9),(vS a1_10),(Sl3.v a1_11),(Sl3.v a1_12),(Sl3.v a1_13),(Sl3.v a1_14),(vI .i64 0)])]) (u0 (m0 (t0 (t0 ?_)))))))));refine A0 (g0 1 [kI 11 0] (u0 (m0 (P0 2 ?_))));obtain ⟨o,hl,h⟩:=bind_some h;rcases o with ⟨H84,v11_85,w2_86,w2_87,w2_88,w2_89,w2_90,w2_91,w2_92,w2_93,w2_94,w2_95,w2_96,w2_97,w2_98,w2_99,w2_100,w2_101⟩ | r
   ·try dsimp only at h
    refine Y0 (P9 (L:=L) (E:=E) (m:=m) (H:=H)) (L.ok hl) 3 ?_;clear hl;refine fun a w hs=>bkE ((m0 ?_ a w hs));refine t0 (A0 (O0 3 [kA 87 #[(vI .i64 w2_86),(vB w2_87),(vB w2_88),(Sl3.v w2_89),(vI .i64 w2_90),(Sl3.v w2_91),(vS w2_92),(vI .i64 w2_93),(vI .i64 w2_94),(vI .i64 w2_95),(vS w2_96),(Sl3.v w2_97),(Sl3.v w2_98),(Sl3.v w2_99),(Sl3.v w2_100)],kL 86 2 0] ([some (36,[(vI .i64 a1_0),(vB a1_1),(vB a1_2),(Sl3.v a1_3),(vI .i64 a1_4),(Sl3.v a1_5),(vS a1_6),(vI .i64 a1_7),(vI .i64 a1_8),(vI .i64 a1_9),(vS a1_10),(Sl3.v a1_11),(Sl3.v a1_12),(Sl3.v a1_13),(Sl3.v a1_14)]),some (36,[(vI .i64 w2_86),(vB w2_87),(vB w2_88),(Sl3.v w2_89),(vI .i64 w2_90),(Sl3.v w2_91),(vS w2_92),(vI .i64 w2_93),(vI .i64 w2_94),(vI .i64 w2_95),(vS w2_96),(Sl3.v w2_97),(Sl3.v w2_98),(Sl3.v w2_99),(Sl3.v w2_100)]),some (231,[(vI .i64 w2_86),(vB w2_87),(vB w2_88),(Sl3.v w2_89),(vI .i64 w2_90),(Sl3.v w2_91),(vS w2_92),(vI .i64 w2_93),(vI .i64 w2_94),(vI .i64 w2_95),(vS w2_96),(Sl3.v w2_97),(Sl3.v w2_98),(Sl3.v w2_99),(Sl3.v w2_100),(vI .i64 w2_101)])]) (u0 (m0 (C0 ?_)))));cases h;exact fun a w hs=>rtR (rS hs)
   ·try dsimp only at h
    refine X0 (P9 (L:=L) (E:=E) (m:=m) (H:=H)) (L.ok hl) 3 ?_;cases h;exact fun a w hq=>bkR (sqR (rtR hq))
  ·try dsimp only at h
   refine X0 (X9 (L:=L) (E:=E) (m:=m) (H:=H)) (L.ok hl) 2 ?_;cases h;exact fun a w hq=>bkR (sqR (rtR hq))
 ·refine B0 17 false (decide_eq_false hp) (D0 ?_);cases h
noncomputable def B125:Code:=(Tryz.f125.body).getD .skip
def K9:(Sl3×AH)→Value
 | (r0,_)=>(Sl3.v r0)
def z9 (_:AH):(Sl3×AH)→AH:=fun r=>r.2
noncomputable def z12 (L:LC) (m:Nat) (a0 a1:Sl3) (a2_0:Int) (a2_1 a2_2:Bool) (a2_3:Sl3) (a2_4:Int) (a2_5:Sl3) (a2_6:ByteArray) (a2_7 a2_8 a2_9:Int) (a2_10:ByteArray) (a2_11 a2_12:Sl3) (a2_13 a2_14:Sl3):(AH×Sl3×Int×Int)→Option (Lp (AH×Sl3×Int×Int) (Sl3×AH)):=fun (H3,v7_4,v8_5,v16_6) =>
 if v16_6<(a1.n:Int) then
  Option.bind (α:=(AH×Sl3×Int)) (
   (idxA 15 a1 v16_6).bind fun p10 => (rd (deI .i64) H3 (Addr.add p10 0)).bind fun x11_0 => (rd deB H3 (Addr.add p10 1)).bind fun x11_1 => (rd deB H3 (Addr.add p10 2)).bind fun x11_2 => (rd deSl H3 (Addr.add p10 3)).bind fun x11_3 => (rd (deI .i64) H3 (Addr.add p10 4)).bind fun x11_4 => (rd deSl H3 (Addr.add p10 5)).bind fun x11_5 => (rd deS H3 (Addr.add p10 6)).bind fun x11_6 => (rd (deI .i64) H3 (Addr.add p10 7)).bind fun x11_7 => (rd (deI .i64) H3 (Addr.add p10 8)).bind fun x11_8 => (rd (deI .i64) H3 (Addr.add p10 9)).bind fun x11_9 => (rd deS H3 (Addr.add p10 10)).bind fun x11_10 => (rd deSl H3 (Addr.add p10 11)).bind fun x11_11 => (rd deSl H3 (Addr.add p10 12)).bind fun x11_12 => (rd deSl H3 (Addr.add p10 13)).bind fun x11_13 => (rd deSl H3 (Addr.add p10 14)).bind fun x11_14 => if v8_5<(a0.n:Int) then
    (idxA 30 a0 v8_5).bind fun p12 => (rd (deI .i64) H3 (Addr.add (Addr.add p12 0) 0)).bind fun x13_0 => (rd deB H3 (Addr.add (Addr.add p12 0) 1)).bind fun x13_1 => (rd deB H3 (Addr.add (Addr.add p12 0) 2)).bind fun x13_2 => (rd deSl H3 (Addr.add (Addr.add p12 0) 3)).bind fun x13_3 => (rd (deI .i64) H3 (Addr.add (Addr.add p12 0) 4)).bind fun x13_4 => (rd deSl H3 (Addr.add (Addr.add p12 0) 5)).bind fun x13_5 => (rd deS H3 (Addr.add (Addr.add p12 0) 6)).bind fun x13_6 => (rd (deI .i64) H3 (Addr.add (Addr.add p12 0) 7)).bind fun x13_7 => (rd (deI .i64) H3 (Addr.add (Addr.add p12 0) 8)).bind fun x13_8 => (rd (deI .i64) H3 (Addr.add (Addr.add p12 0) 9)).bind fun x13_9 => (rd deS H3 (Addr.add (Addr.add p12 0) 10)).bind fun x13_10 => (rd deSl H3 (Addr.add (Addr.add p12 0) 11)).bind fun x13_11 => (rd deSl H3 (Addr.add (Addr.add p12 0) 12)).bind fun x13_12 => (rd deSl H3 (Addr.add (Addr.add p12 0) 13)).bind fun x13_13 => (rd deSl H3 (Addr.add (Addr.add p12 0) 14)).bind fun x13_14 => (Y1 L m H3 x13_0 x13_1 x13_2 x13_3 x13_4 x13_5 x13_6 x13_7 x13_8 x13_9 x13_10 x13_11 x13_12 x13_13 x13_14 x11_0 x11_1 x11_2 x11_3 x11_4 x11_5 x11_6 x11_7 x11_8 x11_9 x11_10 x11_11 x11_12 x11_13 x11_14).bind fun (x14,H15) => if x14=0 then
     (idxA 30 a0 v8_5).bind fun p16 => (rd (deI .i64) H15 (Addr.add p16 0)).bind fun x17_0 => (rd deB H15 (Addr.add p16 1)).bind fun x17_1 => (rd deB H15 (Addr.add p16 2)).bind fun x17_2 => (rd deSl H15 (Addr.add p16 3)).bind fun x17_3 => (rd (deI .i64) H15 (Addr.add p16 4)).bind fun x17_4 => (rd deSl H15 (Addr.add p16 5)).bind fun x17_5 => (rd deS H15 (Addr.add p16 6)).bind fun x17_6 => (rd (deI .i64) H15 (Addr.add p16 7)).bind fun x17_7 => (rd (deI .i64) H15 (Addr.add p16 8)).bind fun x17_8 => (rd (deI .i64) H15 (Addr.add p16 9)).bind fun x17_9 => (rd deS H15 (Addr.add p16 10)).bind fun x17_10 => (rd deSl H15 (Addr.add p16 11)).bind fun x17_11 => (rd deSl H15 (Addr.add p16 12)).bind fun x17_12 => (rd deSl H15 (Addr.add p16 13)).bind fun x17_13 => (rd deSl H15 (Addr.add p16 14)).bind fun x17_14 => (rd (deI .i64) H15 (Addr.add p16 15)).bind fun x17_15 => (rd deB H15 (Addr.add p16 16)).bind fun x17_16 => (rd deB H15 (Addr.add p16 17)).bind fun x17_17 => (rd deSl H15 (Addr.add p16 18)).bind fun x17_18 => (rd (deI .i64) H15 (Addr.add p16 19)).bind fun x17_19 => (rd deSl H15 (Addr.add p16 20)).bind fun x17_20 => (rd deS H15 (Addr.add p16 21)).bind fun x17_21 => (rd (deI .i64) H15 (Addr.add p16 22)).bind fun x17_22 => (rd (deI .i64) H15 (Addr.add p16 23)).bind fun x17_23 => (rd (deI .i64) H15 (Addr.add p16 24)).bind fun x17_24 => (rd deS H15 (Addr.add p16 25)).bind fun x17_25 => (rd deSl H15 (Addr.add p16 26)).bind fun x17_26 => (rd deSl H15 (Addr.add p16 27)).bind fun x17_27 => (rd deSl H15 (Addr.add p16 28)).bind fun x17_28 => (rd deSl H15 (Addr.add p16 29)).bind fun x17_29 => (newR 48 1 #[(vI .i64 x17_0),(vB x17_1),(vB x17_2),(Sl3.v x17_3),(vI .i64 x17_4),(Sl3.v x17_5),(vS x17_6),(vI .i64 x17_7),(vI .i64 x17_8),(vI .i64 x17_9),(vS x17_10),(Sl3.v x17_11),(Sl3.v x17_12),(Sl3.v x17_13),(Sl3.v x17_14),(vI .i64 x17_15),(vB x17_16),(vB x17_17),(Sl3.v x17_18),(vI .i64 x17_19),(Sl3.v x17_20),(vS x17_21),(vI .i64 x17_22),(vI .i64 x17_23),(vI .i64 x17_24),(vS x17_25),(Sl3.v x17_26),(Sl3.v x17_27),(Sl3.v x17_28),(Sl3.v x17_29)] H15).bind fun (s18,H19) => (appS m 48 30 464 H19 v7_4 s18).bind fun (s20,H21) => some (H21,s20,(IntKind.i64.wrap (v8_5+1)))
    else
     (newR 48 1 #[(vI .i64 x11_0),(vB x11_1),(vB x11_2),(Sl3.v x11_3),(vI .i64 x11_4),(Sl3.v x11_5),(vS x11_6),(vI .i64 x11_7),(vI .i64 x11_8),(vI .i64 x11_9),(vS x11_10),(Sl3.v x11_11),(Sl3.v x11_12),(Sl3.v x11_13),(Sl3.v x11_14),(vI .i64 a2_0),(vB a2_1),(vB a2_2),(Sl3.v a2_3),(vI .i64 a2_4),(Sl3.v a2_5),(vS a2_6),(vI .i64 a2_7),(vI .i64 a2_8),(vI .i64 a2_9),(vS a2_10),(Sl3.v a2_11),(Sl3.v a2_12),(Sl3.v a2_13),(Sl3.v a2_14)] H15).bind fun (s22,H23) => (appS m 48 30 464 H23 v7_4 s22).bind fun (s24,H25) => some (H25,s24,v8_5)
   else
    none) fun (H7,v7_8,v8_9) =>
  some (.next (H7,v7_8,v8_9,(IntKind.i64.wrap (v16_6+1))))
 else
  some (.brk (H3,v7_4,v8_5,v16_6))
def z9f (_L:LC) (_m:Nat) (a0 a1:Sl3) (a2_0:Int) (a2_1 a2_2:Bool) (a2_3:Sl3) (a2_4:Int) (a2_5:Sl3) (a2_6:ByteArray) (a2_7 a2_8 a2_9:Int) (a2_10:ByteArray) (a2_11 a2_12:Sl3) (a2_13 a2_14:Sl3):(AH×Sl3×Int×Int)→KN×Lcs:=fun (_,v7_4,v8_5,v16_6)=>([kS 7 v7_4,kI 8 v8_5,kI 16 v16_6,kS 0 a0,kL 5 0 0,kS 14 a1,kI 15 (a1.n:Int)],[some (36,[(vI .i64 a2_0),(vB a2_1),(vB a2_2),(Sl3.v a2_3),(vI .i64 a2_4),(Sl3.v a2_5),(vS a2_6),(vI .i64 a2_7),(vI .i64 a2_8),(vI .i64 a2_9),(vS a2_10),(Sl3.v a2_11),(Sl3.v a2_12),(Sl3.v a2_13),(Sl3.v a2_14)])])
noncomputable def zg (L:LC) (m:Nat) (H:AH) (a0 a1:Sl3) (a2_0:Int) (a2_1 a2_2:Bool) (a2_3:Sl3) (a2_4:Int) (a2_5:Sl3) (a2_6:ByteArray) (a2_7 a2_8 a2_9:Int) (a2_10:ByteArray) (a2_11 a2_12:Sl3) (a2_13 a2_14:Sl3):Option (Sl3×AH) :=
 (mkS 48 30 464 #[(vI .i64 0),(vB false),(vB false),(Sl3.v Sl3.nil),(vI .i64 0),(Sl3.v Sl3.nil),(vS (⟨#[]⟩:ByteArray)),(vI .i64 0),(vI .i64 0),(vI .i64 0),(vS (⟨#[]⟩:ByteArray)),(Sl3.v Sl3.nil),(Sl3.v Sl3.nil),(Sl3.v Sl3.nil),(Sl3.v Sl3.nil),(vI .i64 0),(vB false),(vB false),(Sl3.v Sl3.nil),(vI .i64 0),(Sl3.v Sl3.nil),(vS (⟨#[]⟩:ByteArray)),(vI .i64 0),(vI .i64 0),(vI .i64 0),(vS (⟨#[]⟩:ByteArray)),(Sl3.v Sl3.nil),(Sl3.v Sl3.nil),(Sl3.v Sl3.nil),(Sl3.v Sl3.nil)] H 0 (a1.n:Int)).bind fun (s1,H2) => (L.run (z12 L m a0 a1 a2_0 a2_1 a2_2 a2_3 a2_4 a2_5 a2_6 a2_7 a2_8 a2_9 a2_10 a2_11 a2_12 a2_13 a2_14) (H2,s1,0,0)).bind fun o=>match o with
 | .inl (H26,v7_27,_,_) =>
  some (v7_27,H26)
 | .inr r=>some r
theorem z2a {E H L m a0 a1 a2_0 a2_1 a2_2 a2_3 a2_4 a2_5 a2_6 a2_7 a2_8 a2_9 a2_10 a2_11 a2_12 a2_13 a2_14} :LoopF Tryz.prog (NE.plain 99) m E Tryz.f125 ((cfst (csnd (cfst (csnd (csnd (csnd B125))))))) (z9f L m a0 a1 a2_0 a2_1 a2_2 a2_3 a2_4 a2_5 a2_6 a2_7 a2_8 a2_9 a2_10 a2_11 a2_12 a2_13 a2_14) (fun s=>s.1) 0 K9 (z9 H) (z12 L m a0 a1 a2_0 a2_1 a2_2 a2_3 a2_4 a2_5 a2_6 a2_7 a2_8 a2_9 a2_10 a2_11 a2_12 a2_13 a2_14):=by
 rintro ⟨H3,v7_4,v8_5,v16_6⟩ o h
 unfold z12 at h;try dsimp only at h
 refine t0 (A0 (g0 1 [kB 17 (decide (v16_6<(a1.n:Int)))] (u0 (m0 (t0 ?_)))));rcases J1 h with ⟨hp,h⟩ | ⟨hp,h⟩
 ·refine B0 17 true (decide_eq_true hp) (E0 (M0 (m0 ?_)));obtain ⟨⟨H7,v7_8,v8_9⟩,hx,h⟩:=bind_some h;try dsimp only at h
  refine t0 ?_;refine WS.join ([kS 7 v7_8,kI 8 v8_9,kS 0 a0,kL 5 0 0,kS 14 a1,kI 15 (a1.n:Int),kI 16 v16_6]) ([some (36,[(vI .i64 a2_0),(vB a2_1),(vB a2_2),(Sl3.v a2_3),(vI .i64 a2_4),(Sl3.v a2_5),(vS a2_6),(vI .i64 a2_7),(vI .i64 a2_8),(vI .i64 a2_9),(vS a2_10),(Sl3.v a2_11),(Sl3.v a2_12),(Sl3.v a2_13),(Sl3.v a2_14)])]) H7 ?_ (fun a w hs=>m0 ?_ a w hs)
  ·clear h; rename _=>h;refine P0 1 (t0 (A0 ?_));obtain ⟨p10,hx,h⟩:=bind_some h;refine RS.ix 18 33 36 (.tmp 14) (.tmp 16) hx ?_;obtain ⟨x11_0,hx0,h⟩:=bind_some h;obtain ⟨x11_1,hx1,h⟩:=bind_some h;obtain ⟨x11_2,hx2,h⟩:=bind_some h;obtain ⟨x11_3,hx3,h⟩:=bind_some h;obtain ⟨x11_4,hx4,h⟩:=bind_some h;obtain ⟨x11_5,hx5,h⟩:=bind_some h;obtain ⟨x11_6,hx6,h⟩:=bind_some h;obtain ⟨x11_7,hx7,h⟩:=bind_some h;obtain ⟨x11_8,hx8,h⟩:=bind_some h;obtain ⟨x11_9,hx9,h⟩:=bind_some h;obtain ⟨x11_10,hx10,h⟩:=bind_some h;obtain ⟨x11_11,hx11,h⟩:=bind_some h;obtain ⟨x11_12,hx12,h⟩:=bind_some h;obtain ⟨x11_13,hx13,h⟩:=bind_some h;obtain ⟨x11_14,hx14,h⟩:=bind_some h;refine E1 19 36 (.tmp 18) 15 (G1 (I1 hx0 N1) (G1 (I1 hx1 j2) (G1 (I1 hx2 j2) (G1 (I1 hx3 M1) (G1 (I1 hx4 N1) (G1 (I1 hx5 M1) (G1 (I1 hx6 X1) (G1 (I1 hx7 N1) (G1 (I1 hx8 N1) (G1 (I1 hx9 N1) (G1 (I1 hx10 X1) (G1 (I1 hx11 M1) (G1 (I1 hx12 M1) (G1 (I1 hx13 M1) (G1 (I1 hx14 M1) T2))))))))))))))) (O0 2 [kL 10 1 0] ([some (36,[(vI .i64 a2_0),(vB a2_1),(vB a2_2),(Sl3.v a2_3),(vI .i64 a2_4),(Sl3.v a2_5),(vS a2_6),(vI .i64 a2_7),(vI .i64 a2_8),(vI .i64 a2_9),(vS a2_10),(Sl3.v a2_11),(Sl3.v a2_12),(Sl3.v a2_13),(Sl3.v a2_14)]),some (36,[(vI .i64 x11_0),(vB x11_1),(vB x11_2),(Sl3.v x11_3),(vI .i64 x11_4),(Sl3.v x11_5),(vS x11_6),(vI .i64 x11_7),(vI .i64 x11_8),(vI .i64 x11_9),(vS x11_10),(Sl3.v x11_11),(Sl3.v x11_12),(Sl3.v x11_13),(Sl3.v x11_14)])]) (u0 (m0 (t0 (t0 ?_)))));refine C1 [0,1,2,3,4,5,6,7,8,9,10] [0,0,2,7,15,31,31,127,255,511,31,2047,4095,8191] 14 (fun hcl=>?_);refine S0 0 (some 20) (vI .i64 v8_5) (S0 1 (some 21) (Sl3.v a0) (S0 2 (some 22) (vI .i64 (a0.n:Int)) (S0 3 (some 23) (vB (decide (v8_5<(a0.n:Int)))) (S0 4 (some 24) (vB (decide (v8_5<(a0.n:Int)))) ?_))));rcases J1 h with ⟨hp,h⟩ | ⟨hp,h⟩
   ·refine F1 24 true (decide_eq_true hp) (S0 5 (some 25) (Sl3.v a0) (S0 6 (some 26) (vI .i64 v8_5) ?_));obtain ⟨p12,hx,h⟩:=bind_some h;refine Z0 7 (some 27) (vP (some p12)) (Abs.det_idx (s:=a0) (k:=.i64) (t:=34) (e:=48) (x:=.tmp 25) (y:=.tmp 26) (by kernel_rfl) (by kernel_rfl) (by kernel_rfl) (by kernel_rfl) (by kernel_rfl) hx) (S0 8 (some 28) (vP (some (Addr.add p12 0))) ?_);obtain ⟨x13_0,hx0,h⟩:=bind_some h;obtain ⟨x13_1,hx1,h⟩:=bind_some h;obtain ⟨x13_2,hx2,h⟩:=bind_some h;obtain ⟨x13_3,hx3,h⟩:=bind_some h;obtain ⟨x13_4,hx4,h⟩:=bind_some h;obtain ⟨x13_5,hx5,h⟩:=bind_some h;obtain ⟨x13_6,hx6,h⟩:=bind_some h;obtain ⟨x13_7,hx7,h⟩:=bind_some h;obtain ⟨x13_8,hx8,h⟩:=bind_some h;obtain ⟨x13_9,hx9,h⟩:=bind_some h;obtain ⟨x13_10,hx10,h⟩:=bind_some h;obtain ⟨x13_11,hx11,h⟩:=bind_some h;obtain ⟨x13_12,hx12,h⟩:=bind_some h;obtain ⟨x13_13,hx13,h⟩:=bind_some h;obtain ⟨x13_14,hx14,h⟩:=bind_some h;refine Z0 9 (some 29) (vA #[(vI .i64 x13_0),(vB x13_1),(vB x13_2),(Sl3.v x13_3),(vI .i64 x13_4),(Sl3.v x13_5),(vS x13_6),(vI .i64 x13_7),(vI .i64 x13_8),(vI .i64 x13_9),(vS x13_10),(Sl3.v x13_11),(Sl3.v x13_12),(Sl3.v x13_13),(Sl3.v x13_14)]) (Abs.det_loadA (t:=36) (x:=.tmp 28) (a:=(Addr.add p12 0)) (k:=15) (by kernel_rfl) (by kernel_rfl) (by kernel_rfl) (by kernel_rfl) (G1 (I1 hx0 N1) (G1 (I1 hx1 j2) (G1 (I1 hx2 j2) (G1 (I1 hx3 M1) (G1 (I1 hx4 N1) (G1 (I1 hx5 M1) (G1 (I1 hx6 X1) (G1 (I1 hx7 N1) (G1 (I1 hx8 N1) (G1 (I1 hx9 N1) (G1 (I1 hx10 X1) (G1 (I1 hx11 M1) (G1 (I1 hx12 M1) (G1 (I1 hx13 M1) (G1 (I1 hx14 M1) T2)))))))))))))))) (Q0 10 (some 30) (.val (vA #[(vI .i64 x11_0),(vB x11_1),(vB x11_2),(Sl3.v x11_3),(vI .i64 x11_4),(Sl3.v x11_5),(vS x11_6),(vI .i64 x11_7),(vI .i64 x11_8),(vI .i64 x11_9),(vS x11_10),(Sl3.v x11_11),(Sl3.v x11_12),(Sl3.v x11_13),(Sl3.v x11_14)])) ?_);obtain ⟨⟨x14,H15⟩,hx,h⟩:=bind_some h;try dsimp only at h
    refine DA.on 11 (J0 11 (some 31) (v:=(vI .i64 x14)) 4 #[(vA #[(vI .i64 x13_0),(vB x13_1),(vB x13_2),(Sl3.v x13_3),(vI .i64 x13_4),(Sl3.v x13_5),(vS x13_6),(vI .i64 x13_7),(vI .i64 x13_8),(vI .i64 x13_9),(vS x13_10),(Sl3.v x13_11),(Sl3.v x13_12),(Sl3.v x13_13),(Sl3.v x13_14)]),(vA #[(vI .i64 x11_0),(vB x11_1),(vB x11_2),(Sl3.v x11_3),(vI .i64 x11_4),(Sl3.v x11_5),(vS x11_6),(vI .i64 x11_7),(vI .i64 x11_8),(vI .i64 x11_9),(vS x11_10),(Sl3.v x11_11),(Sl3.v x11_12),(Sl3.v x11_13),(Sl3.v x11_14)])] (T1 hx) (N0 12 (some 32) (vB (decide (x14=0))) (N0 13 (some 33) (vB (decide (x14=0))) (K0 (m0 ?_)))));rcases J1 h with ⟨hp,h⟩ | ⟨hp,h⟩
    ·refine B0 33 true (decide_eq_true hp) (E0 (t0 (A0 (g0 3 [kI 36 v8_5,kS 35 a0,kS 34 v7_4] ?_))));obtain ⟨p16,hx,h⟩:=bind_some h;refine RS.ix 37 34 48 (.tmp 35) (.tmp 36) hx ?_;obtain ⟨x17_0,hx0,h⟩:=bind_some h;obtain ⟨x17_1,hx1,h⟩:=bind_some h;obtain ⟨x17_2,hx2,h⟩:=bind_some h;obtain ⟨x17_3,hx3,h⟩:=bind_some h;obtain ⟨x17_4,hx4,h⟩:=bind_some h;obtain ⟨x17_5,hx5,h⟩:=bind_some h;obtain ⟨x17_6,hx6,h⟩:=bind_some h;obtain ⟨x17_7,hx7,h⟩:=bind_some h;obtain ⟨x17_8,hx8,h⟩:=bind_some h;obtain ⟨x17_9,hx9,h⟩:=bind_some h;obtain ⟨x17_10,hx10,h⟩:=bind_some h;obtain ⟨x17_11,hx11,h⟩:=bind_some h;obtain ⟨x17_12,hx12,h⟩:=bind_some h;obtain ⟨x17_13,hx13,h⟩:=bind_some h;obtain ⟨x17_14,hx14,h⟩:=bind_some h;obtain ⟨x17_15,hx15,h⟩:=bind_some h;obtain ⟨x17_16,hx16,h⟩:=bind_some h;obtain ⟨x17_17,hx17,h⟩:=bind_some h;obtain ⟨x17_18,hx18,h⟩:=bind_some h;obtain ⟨x17_19,hx19,h⟩:=bind_some h;obtain ⟨x17_20,hx20,h⟩:=bind_some h;obtain ⟨x17_21,hx21,h⟩:=bind_some h;obtain ⟨x17_22,hx22,h⟩:=bind_some h;obtain ⟨x17_23,hx23,h⟩:=bind_some h;obtain ⟨x17_24,hx24,h⟩:=bind_some h;obtain ⟨x17_25,hx25,h⟩:=bind_some h;obtain ⟨x17_26,hx26,h⟩:=bind_some h;obtain ⟨x17_27,hx27,h⟩:=bind_some h;obtain ⟨x17_28,hx28,h⟩:=bind_some h;obtain ⟨x17_29,hx29,h⟩:=bind_some h;refine E1 38 48 (.tmp 37) 30 (G1 (I1 hx0 N1) (G1 (I1 hx1 j2) (G1 (I1 hx2 j2) (G1 (I1 hx3 M1) (G1 (I1 hx4 N1) (G1 (I1 hx5 M1) (G1 (I1 hx6 X1) (G1 (I1 hx7 N1) (G1 (I1 hx8 N1) (G1 (I1 hx9 N1) (G1 (I1 hx10 X1) (G1 (I1 hx11 M1) (G1 (I1 hx12 M1) (G1 (I1 hx13 M1) (G1 (I1 hx14 M1) (G1 (I1 hx15 N1) (G1 (I1 hx16 j2) (G1 (I1 hx17 j2) (G1 (I1 hx18 M1) (G1 (I1 hx19 N1) (G1 (I1 hx20 M1) (G1 (I1 hx21 X1) (G1 (I1 hx22 N1) (G1 (I1 hx23 N1) (G1 (I1 hx24 N1) (G1 (I1 hx25 X1) (G1 (I1 hx26 M1) (G1 (I1 hx27 M1) (G1 (I1 hx28 M1) (G1 (I1 hx29 M1) T2)))))))))))))))))))))))))))))) ?_;obtain ⟨⟨s18,H19⟩,hx,h⟩:=bind_some h;try dsimp only at h
     refine T0 (H':=H19) (some 39) (Sl3.v s18) (Abs.run_newR (by kernel_rfl) (by kernel_rfl) hx) ?_;obtain ⟨⟨s20,H21⟩,hx,h⟩:=bind_some h;try dsimp only at h
     refine T0 (H':=H21) (some 40) (Sl3.v s20) (Abs.run_app (x:=.tmp 34) (y:=.tmp 39) (ts:=#[34,34]) (s:=v7_4) (z:=s18) (by kernel_rfl) (by kernel_rfl) (by kernel_rfl) (by kernel_rfl) hx) (g0 1 [kS 7 s20] (u0 (m0 (t0 (A0 (g0 3 [kI 8 (IntKind.i64.wrap (v8_5+1)),kI 42 (IntKind.i64.wrap (v8_5+1)),kI 41 v8_5] (u0 (m0 (WS.ex 1 ?_)))))))));cases h;exact fun a w hs=>sqE (bkE ((jsN (hs.sb 1))))
    ·refine B0 33 false (decide_eq_false hp) (D0 (M0 (m0 (A0 (g0 4 [kA 46 #[(vI .i64 x11_0),(vB x11_1),(vB x11_2),(Sl3.v x11_3),(vI .i64 x11_4),(Sl3.v x11_5),(vS x11_6),(vI .i64 x11_7),(vI .i64 x11_8),(vI .i64 x11_9),(vS x11_10),(Sl3.v x11_11),(Sl3.v x11_12),(Sl3.v x11_13),(Sl3.v x11_14),(vI .i64 a2_0),(vB a2_1),(vB a2_2),(Sl3.v a2_3),(vI .i64 a2_4),(Sl3.v a2_5),(vS a2_6),(vI .i64 a2_7),(vI .i64 a2_8),(vI .i64 a2_9),(vS a2_10),(Sl3.v a2_11),(Sl3.v a2_12),(Sl3.v a2_13),(Sl3.v a2_14)],kA 45 #[(vI .i64 a2_0),(vB a2_1),(vB a2_2),(Sl3.v a2_3),(vI .i64 a2_4),(Sl3.v a2_5),(vS a2_6),(vI .i64 a2_7),(vI .i64 a2_8),(vI .i64 a2_9),(vS a2_10),(Sl3.v a2_11),(Sl3.v a2_12),(Sl3.v a2_13),(Sl3.v a2_14)],kA 44 #[(vI .i64 x11_0),(vB x11_1),(vB x11_2),(Sl3.v x11_3),(vI .i64 x11_4),(Sl3.v x11_5),(vS x11_6),(vI .i64 x11_7),(vI .i64 x11_8),(vI .i64 x11_9),(vS x11_10),(Sl3.v x11_11),(Sl3.v x11_12),(Sl3.v x11_13),(Sl3.v x11_14)],kS 43 v7_4] ?_)))));obtain ⟨⟨s22,H23⟩,hx,h⟩:=bind_some h;try dsimp only at h
     refine T0 (H':=H23) (some 47) (Sl3.v s22) (Abs.run_newR (by kernel_rfl) (by kernel_rfl) hx) ?_;obtain ⟨⟨s24,H25⟩,hx,h⟩:=bind_some h;try dsimp only at h
     refine T0 (H':=H25) (some 48) (Sl3.v s24) (Abs.run_app (x:=.tmp 43) (y:=.tmp 47) (ts:=#[34,34]) (s:=v7_4) (z:=s22) (by kernel_rfl) (by kernel_rfl) (by kernel_rfl) (by kernel_rfl) hx) (g0 1 [kS 7 s24] (u0 ?_));cases h;exact fun a w hs=>bkN ((jsN (hs.sb 1)))
   ·refine F1 24 false (decide_eq_false hp) ?_;cases h
  ·clear hx;refine A0 (g0 2 [kI 16 (IntKind.i64.wrap (v16_6+1)),kI 49 (IntKind.i64.wrap (v16_6+1))] (u0 ?_));cases h;exact fun a w hs=>lsN rfl (hs.sb 1)
 ·refine B0 17 false (decide_eq_false hp) (D0 (WS.ex 0 ?_));cases h;exact fun a w hs=>sqE (lsB rfl (hs.sb 1))
theorem z5f {L:LC} {m:Nat} {H:AH} {a0 a1:Sl3} {a2_0:Int} {a2_1 a2_2:Bool} {a2_3:Sl3} {a2_4:Int} {a2_5:Sl3} {a2_6:ByteArray} {a2_7 a2_8 a2_9:Int} {a2_10:ByteArray} {a2_11 a2_12:Sl3} {a2_13 a2_14:Sl3} {r:(Sl3×AH)} (h:zg L m H a0 a1 a2_0 a2_1 a2_2 a2_3 a2_4 a2_5 a2_6 a2_7 a2_8 a2_9 a2_10 a2_11 a2_12 a2_13 a2_14=some r) :
  CallS Tryz.prog (NE.plain 99) m 125 #[(Sl3.v a0),(Sl3.v a1),(vA #[(vI .i64 a2_0),(vB a2_1),(vB a2_2),(Sl3.v a2_3),(vI .i64 a2_4),(Sl3.v a2_5),(vS a2_6),(vI .i64 a2_7),(vI .i64 a2_8),(vI .i64 a2_9),(vS a2_10),(Sl3.v a2_11),(Sl3.v a2_12),(Sl3.v a2_13),(Sl3.v a2_14)])] H (K9 r) (z9 H r):=by
 refine CallS.mk (args:=[(Sl3.v a0),(Sl3.v a1),(vA #[(vI .i64 a2_0),(vB a2_1),(vB a2_2),(Sl3.v a2_3),(vI .i64 a2_4),(Sl3.v a2_5),(vS a2_6),(vI .i64 a2_7),(vI .i64 a2_8),(vI .i64 a2_9),(vS a2_10),(Sl3.v a2_11),(Sl3.v a2_12),(Sl3.v a2_13),(Sl3.v a2_14)])]) Tryz.func125 (B:=B125) (by kernel_rfl) (fun E _=>?_);unfold zg at h;refine t0 (A0 (O0 2 [kS 6 Sl3.nil,kL 5 0 0] ([some (36,[(vI .i64 a2_0),(vB a2_1),(vB a2_2),(Sl3.v a2_3),(vI .i64 a2_4),(Sl3.v a2_5),(vS a2_6),(vI .i64 a2_7),(vI .i64 a2_8),(vI .i64 a2_9),(vS a2_10),(Sl3.v a2_11),(Sl3.v a2_12),(Sl3.v a2_13),(Sl3.v a2_14)])]) (u0 (m0 (t0 (A0 (g0 2 [kI 12 (a1.n:Int),kS 11 a1] ?_)))))));obtain ⟨⟨s1,H2⟩,hx,h⟩:=bind_some h;try dsimp only at h
 refine T0 (H':=H2) (some 13) (Sl3.v s1) (Abs.run_mk (t:=34) (x:=.const (vI .i64 0)) (y:=.tmp 12) (k1:=.i64) (k2:=.i64) (by kernel_rfl) (by kernel_rfl) (by kernel_rfl) (by kernel_rfl) hx) (g0 1 [kS 7 s1] (u0 (m0 (t0 (A0 (g0 1 [kI 8 0] (u0 (m0 (t0 ?_)))))))));refine t0 (A0 (g0 3 [kI 16 0,kI 15 (a1.n:Int),kS 14 a1] (u0 (m0 (P0 0 ?_)))));obtain ⟨o,hl,h⟩:=bind_some h;rcases o with ⟨H26,v7_27,v8_28,v16_29⟩ | r
 ·try dsimp only at h
  refine Y0 (z2a (L:=L) (E:=E) (m:=m) (H:=H)) (L.ok hl) 1 ?_;clear hl;refine fun a w hs=>bkE ((m0 ?_ a w hs));refine t0 (A0 (g0 2 [kS 6 v7_27,kS 50 v7_27] (u0 (m0 (C0 ?_)))));cases h;exact fun a w hs=>rtR (rS hs)
 ·try dsimp only at h
  refine X0 (z2a (L:=L) (E:=E) (m:=m) (H:=H)) (L.ok hl) 1 ?_;cases h;exact fun a w hq=>bkR (sqR (rtR hq))
noncomputable def B132:Code:=(Tryz.f132.body).getD .skip
def zcf:Int→Value
 | r0=>(vI .i64 r0)
def zdv (H:AH):Int→AH:=fun _=>H
noncomputable def z72 (_L:LC) (a0:Int):Option Int :=
 if a0≥4294967296 then
  none
 else
  if a0≥65536 then
   none
  else
   if a0≥256 then
    none
   else
    (bytA (⟨#[0,1,2,2,3,3,3,3,4,4,4,4,4,4,4,4,5,5,5,5,5,5,5,5,5,5,5,5,5,5,5,5,6,6,6,6,6,6,6,6,6,6,6,6,6,6,6,6,6,6,6,6,6,6,6,6,6,6,6,6,6,6,6,6,7,7,7,7,7,7,7,7,7,7,7,7,7,7,7,7,7,7,7,7,7,7,7,7,7,7,7,7,7,7,7,7,7,7,7,7,7,7,7,7,7,7,7,7,7,7,7,7,7,7,7,7,7,7,7,7,7,7,7,7,7,7,7,7,8,8,8,8,8,8,8,8,8,8,8,8,8,8,8,8,8,8,8,8,8,8,8,8,8,8,8,8,8,8,8,8,8,8,8,8,8,8,8,8,8,8,8,8,8,8,8,8,8,8,8,8,8,8,8,8,8,8,8,8,8,8,8,8,8,8,8,8,8,8,8,8,8,8,8,8,8,8,8,8,8,8,8,8,8,8,8,8,8,8,8,8,8,8,8,8,8,8,8,8,8,8,8,8,8,8,8,8,8,8,8,8,8,8,8,8,8,8,8,8,8,8,8,8,8,8,8,8]⟩:ByteArray) (IntKind.u8.wrap a0)).bind fun x1 => some (IntKind.i64.wrap (0+(IntKind.i64.wrap x1)))
theorem zdt {L:LC} {m:Nat} {H:AH} {a0 r:Int} (h:z72 L a0=some r) :
  CallS Tryz.prog (NE.plain 99) m 132 #[(vI .u64 a0)] H (zcf r) (zdv H r):=by
 refine CallS.mk (args:=[(vI .u64 a0)]) Tryz.func132 (B:=B132) (by kernel_rfl) (fun E _=>?_);unfold z72 at h;refine t0 (A0 (g0 1 [kI 2 0] (u0 (m0 (t0 (t0 (A0 (g0 2 [kB 4 (decide (a0≥4294967296)),(3,.val (vI .u64 a0))] (u0 ?_)))))))));refine m0 ?_;rcases J1 h with ⟨hp,h⟩ | ⟨hp,h⟩
 ·refine B0 4 true (decide_eq_true hp) (E0 ?_);cases h
 ·refine B0 4 false (decide_eq_false hp) (D0 (M0 (m0 (t0 (t0 (A0 (g0 2 [kB 8 (decide (a0≥65536)),(7,.val (vI .u64 a0))] (u0 (m0 ?_)))))))));rcases J1 h with ⟨hp,h⟩ | ⟨hp,h⟩
  ·refine B0 8 true (decide_eq_true hp) (E0 ?_);cases h
  ·refine B0 8 false (decide_eq_false hp) (D0 (M0 (m0 (t0 (t0 (A0 (g0 2 [kB 14 (decide (a0≥256)),(13,.val (vI .u64 a0))] (u0 (m0 ?_)))))))));rcases J1 h with ⟨hp,h⟩ | ⟨hp,h⟩
   ·refine B0 14 true (decide_eq_true hp) (E0 ?_);cases h
   ·refine B0 14 false (decide_eq_false hp) (D0 (M0 (m0 (t0 (A0 (g0 3 [(21,.val (vI .u8 (IntKind.u8.wrap a0))),(20,.val (vI .u64 a0)),kI 19 0] ?_))))));obtain ⟨x1,hx,h⟩:=bind_some h;refine T0 (H':=H) (some 22) (vI .u8 x1) (Abs.run_byt (t:=9) (x:=.const (vS (⟨#[0,1,2,2,3,3,3,3,4,4,4,4,4,4,4,4,5,5,5,5,5,5,5,5,5,5,5,5,5,5,5,5,6,6,6,6,6,6,6,6,6,6,6,6,6,6,6,6,6,6,6,6,6,6,6,6,6,6,6,6,6,6,6,6,7,7,7,7,7,7,7,7,7,7,7,7,7,7,7,7,7,7,7,7,7,7,7,7,7,7,7,7,7,7,7,7,7,7,7,7,7,7,7,7,7,7,7,7,7,7,7,7,7,7,7,7,7,7,7,7,7,7,7,7,7,7,7,7,8,8,8,8,8,8,8,8,8,8,8,8,8,8,8,8,8,8,8,8,8,8,8,8,8,8,8,8,8,8,8,8,8,8,8,8,8,8,8,8,8,8,8,8,8,8,8,8,8,8,8,8,8,8,8,8,8,8,8,8,8,8,8,8,8,8,8,8,8,8,8,8,8,8,8,8,8,8,8,8,8,8,8,8,8,8,8,8,8,8,8,8,8,8,8,8,8,8,8,8,8,8,8,8,8,8,8,8,8,8,8,8,8,8,8,8,8,8,8,8,8,8,8,8,8,8,8,8]⟩:ByteArray))) (y:=.tmp 21) (s:=(⟨#[0,1,2,2,3,3,3,3,4,4,4,4,4,4,4,4,5,5,5,5,5,5,5,5,5,5,5,5,5,5,5,5,6,6,6,6,6,6,6,6,6,6,6,6,6,6,6,6,6,6,6,6,6,6,6,6,6,6,6,6,6,6,6,6,7,7,7,7,7,7,7,7,7,7,7,7,7,7,7,7,7,7,7,7,7,7,7,7,7,7,7,7,7,7,7,7,7,7,7,7,7,7,7,7,7,7,7,7,7,7,7,7,7,7,7,7,7,7,7,7,7,7,7,7,7,7,7,7,8,8,8,8,8,8,8,8,8,8,8,8,8,8,8,8,8,8,8,8,8,8,8,8,8,8,8,8,8,8,8,8,8,8,8,8,8,8,8,8,8,8,8,8,8,8,8,8,8,8,8,8,8,8,8,8,8,8,8,8,8,8,8,8,8,8,8,8,8,8,8,8,8,8,8,8,8,8,8,8,8,8,8,8,8,8,8,8,8,8,8,8,8,8,8,8,8,8,8,8,8,8,8,8,8,8,8,8,8,8,8,8,8,8,8,8,8,8,8,8,8,8,8,8,8,8,8,8]⟩:ByteArray)) (k:=.u8) (i:=(IntKind.u8.wrap a0)) (by kernel_rfl) (by kernel_rfl) (by kernel_rfl) (by kernel_rfl) hx) (g0 3 [kI 2 (IntKind.i64.wrap (0+(IntKind.i64.wrap x1))),kI 24 (IntKind.i64.wrap (0+(IntKind.i64.wrap x1))),kI 23 (IntKind.i64.wrap x1)] (u0 (m0 (C0 ?_))));cases h;exact fun a w hs=>rtR (rS hs)
noncomputable def B107:Code:=(Tryz.f107.body).getD .skip
def ze8:Int→Value
 | r0=>(vI .i64 r0)
def zgb (H:AH):Int→AH:=fun _=>H
noncomputable def zb8 (L:LC) (a0:Int):Option Int :=
 (z72 L a0).bind fun x1 => some x1
theorem zg9 {L:LC} {m:Nat} {H:AH} {a0 r:Int} (h:zb8 L a0=some r) :
  CallS Tryz.prog (NE.plain 99) m 107 #[(vI .u64 a0)] H (ze8 r) (zgb H r):=by
 refine CallS.mk (args:=[(vI .u64 a0)]) Tryz.func107 (B:=B107) (by kernel_rfl) (fun E _=>?_);unfold zb8 at h;refine t0 (A0 (g0 1 [kI 2 0] (u0 (m0 (t0 (D0 (M0 (m0 (t0 ?_)))))))));refine A0 (g0 1 [(6,.val (vI .u64 a0))] ?_);obtain ⟨x1,hx,h⟩:=bind_some h;refine RS.cl (some 7) (v:=(vI .i64 x1)) 132 _ (zdt hx) (g0 1 [kI 2 x1] (u0 (m0 (C0 ?_))));cases h;exact fun a w hs=>rtR (rS hs)
noncomputable def B170:Code:=(Tryz.f170.body).getD .skip
def M7:AH→Value
 | _=>(Value.tuple #[])
def V7 (_:AH):AH→AH:=fun r=>r
noncomputable def M3 (L:LC):Nat→FuncId→Array Value→AH→Option (Value×AH) :=
 orN
noncomputable def A5 (L:LC) (m:Nat) (H:AH) (a0:Sl3) (a1 a2:Int):Option AH :=
 byRun Tryz.prog 99 (M3 L) m 170 #[(Sl3.v a0),(vI .i64 a1),(vI .i64 a2),(Value.func (.func 4) #[] #[])] H (dcT dcN) fun _ H2=>H2
theorem I7 {L:LC}:OrOK Tryz.prog (NE.plain 99) (M3 L):=by
 unfold M3;exact orN_ok
theorem W7 {L:LC} {m:Nat} {H:AH} {a0:Sl3} {a1 a2:Int} {r:AH} (h:A5 L m H a0 a1 a2=some r) :
  CallS Tryz.prog (NE.plain 99) m 170 #[(Sl3.v a0),(vI .i64 a1),(vI .i64 a2),(Value.func (.func 4) #[] #[])] H (M7 r) (V7 H r):=by
 obtain ⟨_,H2,rfl,hc⟩:=z4f I7 Tryz.func170 (show Tryz.f170.body=some B170 by kernel_rfl) h;exact hc
noncomputable def B162:Code:=(Tryz.f162.body).getD .skip
def K3:AH→Value
 | _=>(Value.tuple #[])
def R3 (_:AH):AH→AH:=fun r=>r
noncomputable def Z4 (L:LC) (m:Nat) (a0:Sl3):(AH×Int×Int×Int×Bool×Bool)→Option (Lp (AH×Int×Int×Int×Bool×Bool) AH):=fun (H1,v1_2,v2_3,_,_,_) =>
 if (IntKind.i64.wrap (v2_3 - v1_2))≤12 then
  (A5 L m H1 a0 v1_2 v2_3).bind fun H7 => some (.ret H7)
 else
  none
def zy (_L:LC) (_m:Nat) (a0:Sl3):(AH×Int×Int×Int×Bool×Bool)→KN×Lcs:=fun (_,v1_2,v2_3,v3_4,v10_5,v11_6)=>([kI 1 v1_2,kI 2 v2_3,kI 3 v3_4,kB 10 v10_5,kB 11 v11_6,kS 0 a0,(4,.val (Value.func (.func 4) #[] #[]))],[])
noncomputable def K4 (L:LC) (m:Nat) (H:AH) (a0:Sl3) (a1 a2 a3:Int):Option AH :=
 (L.run (Z4 L m a0) (H,a1,a2,a3,true,true)).bind fun o=>match o with
 | .inl (H8,_,_,_,_,_) =>
  some H8
 | .inr r=>some r
noncomputable def Q6 (L:LC) (n:Nat):(Nat→AH→Sl3→Int→Int→Int→Option AH):=Nat.rec (motive:=fun _=>(Nat→AH→Sl3→Int→Int→Int→Option AH)) (fun _ _ _ _ _ _=>none) (fun _ _=>K4 L) n
noncomputable def n8 (L:LC) (m:Nat) (H:AH) (a0:Sl3) (a1 a2 a3:Int):Option AH:=(Q6 L L.fuel) m H a0 a1 a2 a3
theorem j6 {E H L m a0} :LoopF Tryz.prog (NE.plain 99) m E Tryz.f162 ((cfst (csnd (csnd B162)))) (zy L m a0) (fun s=>s.1) 0 K3 (R3 H) (Z4 L m a0):=by
 rintro ⟨H1,v1_2,v2_3,v3_4,v10_5,v11_6⟩ o h
 unfold Z4 at h;try dsimp only at h
 refine P0 1 (t0 (A0 (g0 4 [kI 12 (IntKind.i64.wrap (v2_3 - v1_2)),kI 23 (IntKind.i64.wrap (v2_3 - v1_2)),kI 22 v1_2,kI 21 v2_3] (u0 (m0 (t0 (t0 (A0 (g0 2 [kB 25 (decide ((IntKind.i64.wrap (v2_3 - v1_2))≤12)),kI 24 (IntKind.i64.wrap (v2_3 - v1_2))] ?_)))))))));refine u0 (m0 ?_);rcases J1 h with ⟨hp,h⟩ | ⟨hp,h⟩
 ·refine B0 25 true (decide_eq_true hp) (E0 (t0 (A0 (g0 4 [(29,.val (Value.func (.func 4) #[] #[])),kI 28 v2_3,kI 27 v1_2,kS 26 a0] ?_))));obtain ⟨H7,hx,h⟩:=bind_some h;refine RS.cl (some 30) (v:=(Value.tuple #[])) 170 _ (W7 hx) (u0 (m0 (C0 ?_)));cases h;exact fun a w hs=>sqR (bkR (lsR rfl (rS hs)))
 ·refine B0 25 false (decide_eq_false hp) (D0 ?_);cases h
theorem D9 {L:LC} {m:Nat} {H:AH} {a0:Sl3} {a1 a2 a3:Int} {r:AH} (h:K4 L m H a0 a1 a2 a3=some r) :
  CallS Tryz.prog (NE.plain 99) m 162 #[(Sl3.v a0),(vI .i64 a1),(vI .i64 a2),(vI .i64 a3),(Value.func (.func 4) #[] #[])] H (K3 r) (R3 H r):=by
 refine CallS.mk (args:=[(Sl3.v a0),(vI .i64 a1),(vI .i64 a2),(vI .i64 a3),(Value.func (.func 4) #[] #[])]) Tryz.func162 (B:=B162) (by kernel_rfl) (fun E _=>?_);unfold K4 at h;refine t0 (A0 (g0 1 [kB 10 true] (u0 (m0 (t0 (A0 (g0 1 [kB 11 true] (u0 (m0 ?_)))))))));refine P0 0 ?_;obtain ⟨o,hl,h⟩:=bind_some h;rcases o with ⟨H8,v1_9,v2_10,v3_11,v10_12,v11_13⟩ | r
 ·try dsimp only at h
  refine Y0 (j6 (L:=L) (E:=E) (m:=m) (H:=H)) (L.ok hl) 0 ?_;clear hl;cases h;exact fun a w hs=>bkE (rtN (rS hs))
 ·try dsimp only at h
  refine X0 (j6 (L:=L) (E:=E) (m:=m) (H:=H)) (L.ok hl) 0 ?_;cases h;exact fun a w hq=>bkR (rtR hq)
theorem z5 {L:LC}:∀n,(∀(m:Nat) (H:AH) (a0:Sl3) (a1 a2 a3:Int) (r:AH),((Q6 L n)) m H a0 a1 a2 a3=some r→CallS Tryz.prog (NE.plain 99) m 162 #[(Sl3.v a0),(vI .i64 a1),(vI .i64 a2),(vI .i64 a3),(Value.func (.func 4) #[] #[])] H (K3 r) (R3 H r)):=by
 intro n;induction n with
 | zero=>exact (fun _ _ _ _ _ _ _ h=>(Option.some_ne_none _ h.symm).elim)
 | succ n ih=>exact (fun _ _ _ _ _ _ _ h=>D9 (L:=L)  h)
theorem z2e {L:LC} {m:Nat} {H:AH} {a0:Sl3} {a1 a2 a3:Int} {r:AH} (h:n8 L m H a0 a1 a2 a3=some r) :
  CallS Tryz.prog (NE.plain 99) m 162 #[(Sl3.v a0),(vI .i64 a1),(vI .i64 a2),(vI .i64 a3),(Value.func (.func 4) #[] #[])] H (K3 r) (R3 H r) :=
 (z5 _) _ _ _ _ _ _ _ h
noncomputable def B146:Code:=(Tryz.f146.body).getD .skip
def z5v:AH→Value
 | _=>(Value.tuple #[])
def z6l (_:AH):AH→AH:=fun r=>r
noncomputable def d8 (L:LC) (m:Nat) (H:AH) (a0:Sl3):Option AH :=
 (zb8 L (IntKind.u64.wrap (a0.n:Int))).bind fun x1 => (n8 L m H a0 0 (a0.n:Int) x1).bind fun H2 => some H2
theorem z5x {L:LC} {m:Nat} {H:AH} {a0:Sl3} {r:AH} (h:d8 L m H a0=some r) :
  CallS Tryz.prog (NE.plain 99) m 146 #[(Sl3.v a0),(Value.func (.func 4) #[] #[])] H (z5v r) (z6l H r):=by
 refine CallS.mk (args:=[(Sl3.v a0),(Value.func (.func 4) #[] #[])]) Tryz.func146 (B:=B146) (by kernel_rfl) (fun E _=>?_);unfold d8 at h;refine t0 (A0 (g0 3 [kI 4 (a0.n:Int),kI 6 (a0.n:Int),kS 5 a0] (u0 (m0 (A0 (g0 4 [(10,.val (vI .u64 (IntKind.u64.wrap (a0.n:Int)))),kI 9 (a0.n:Int),kI 8 (a0.n:Int),kS 7 a0] ?_))))));obtain ⟨x1,hx,h⟩:=bind_some h;refine RS.cl (some 11) (v:=(vI .i64 x1)) 107 _ (zg9 hx) (g0 1 [(12,.val (Value.func (.func 4) #[] #[]))] ?_);obtain ⟨H2,hx,h⟩:=bind_some h;refine RS.cl (some 13) (v:=(Value.tuple #[])) 162 _ (z2e hx) (u0 ?_);cases h;exact fun a w hs=>rtN (rS hs)
noncomputable def B124:Code:=(Tryz.f124.body).getD .skip
noncomputable def B97:Code:=(Tryz.f97.body).getD .skip
def j4:(Sl3×Bool×AH)→Value
 | (r0,r1,_)=>(Value.tuple #[(Sl3.v r0),(vB r1)])
def G4 (_:AH):(Sl3×Bool×AH)→AH:=fun r=>r.2.2
def C4:(Int×Bool×Bool×Sl3×Int×Sl3×ByteArray×Int×Int×Int×ByteArray×Sl3×Sl3×Sl3×Sl3×Bool×AH)→Value
 | (r0,r1,r2,r3,r4,r5,r6,r7,r8,r9,r10,r11,r12,r13,r14,r15,_)=>(Value.tuple #[(vA #[(vI .i64 r0),(vB r1),(vB r2),(Sl3.v r3),(vI .i64 r4),(Sl3.v r5),(vS r6),(vI .i64 r7),(vI .i64 r8),(vI .i64 r9),(vS r10),(Sl3.v r11),(Sl3.v r12),(Sl3.v r13),(Sl3.v r14)]),(vB r15)])
def M4 (_:AH):(Int×Bool×Bool×Sl3×Int×Sl3×ByteArray×Int×Int×Int×ByteArray×Sl3×Sl3×Sl3×Sl3×Bool×AH)→AH:=fun r=>r.2.2.2.2.2.2.2.2.2.2.2.2.2.2.2.2
noncomputable def R8 (L:LC) (_a1_0 _a1_1:Int) (_a1_2:ByteArray) (_a1_3:Sl3) (a2:Int) (s6:Sl3) (H7:AH):(Int×Int)→Option (Lp (Int×Int) (Sl3×Bool×AH)):=fun (v13_8,v75_9) =>
 if v75_9<(s6.n:Int) then
  (idxA 15 s6 v75_9).bind fun p10 => (rd (deI .i64) H7 (Addr.add p10 0)).bind fun x11_0 => (rd deB H7 (Addr.add p10 1)).bind fun x11_1 => (rd deB H7 (Addr.add p10 2)).bind fun x11_2 => (rd deSl H7 (Addr.add p10 3)).bind fun x11_3 => (rd (deI .i64) H7 (Addr.add p10 4)).bind fun x11_4 => (rd deSl H7 (Addr.add p10 5)).bind fun x11_5 => (rd deS H7 (Addr.add p10 6)).bind fun x11_6 => (rd (deI .i64) H7 (Addr.add p10 7)).bind fun x11_7 => (rd (deI .i64) H7 (Addr.add p10 8)).bind fun x11_8 => (rd (deI .i64) H7 (Addr.add p10 9)).bind fun x11_9 => (rd deS H7 (Addr.add p10 10)).bind fun x11_10 => (rd deSl H7 (Addr.add p10 11)).bind fun x11_11 => (rd deSl H7 (Addr.add p10 12)).bind fun x11_12 => (rd deSl H7 (Addr.add p10 13)).bind fun x11_13 => (rd deSl H7 (Addr.add p10 14)).bind fun x11_14 => (z1y L H7 x11_0 x11_1 x11_2 x11_3 x11_4 x11_5 x11_6 x11_7 x11_8 x11_9 x11_10 x11_11 x11_12 x11_13 x11_14).bind fun x12 => if (IntKind.i64.wrap (v13_8+x12)) > a2 then
   none
  else
   some (.next ((IntKind.i64.wrap (v13_8+x12)),(IntKind.i64.wrap (v75_9+1))))
 else
  some (.brk (v13_8,v75_9))
def z78 (_L:LC) (a1_0 a1_1:Int) (a1_2:ByteArray) (a1_3:Sl3) (a2:Int) (s6:Sl3) (_H7:AH):(Int×Int)→KN×Lcs:=fun (v13_8,v75_9)=>([kI 13 v13_8,kI 75 v75_9,kI 2 a2,kS 10 s6,kS 73 s6,kI 74 (s6.n:Int)],[some (32,[(vI .i64 a1_0),(vI .i64 a1_1),(vS a1_2),(Sl3.v a1_3)])])
noncomputable def G7 (L:LC) (m:Nat) (H:AH) (a0:Option Addr) (a1_0 a1_1:Int) (a1_2:ByteArray) (a1_3:Sl3) (a2:Int):Option (Sl3×Bool×AH) :=
 a0.bind fun q1 => (rd deSl H (Addr.add (Addr.add q1 0) 0)).bind fun x2_0 => (rd deSl H (Addr.add (Addr.add q1 0) 1)).bind fun x2_1 => (rd deSl H (Addr.add (Addr.add q1 0) 2)).bind fun x2_2 => (zm L m H a1_0 a1_1 a1_2 a1_3 x2_0 x2_1 x2_2 a2).bind fun (_,x4,H5) => if x4=true then
  if a1_0=1 then
   (newR 36 2 #[(vI .i64 1),(vB false),(vB false),(Sl3.v Sl3.nil),(vI .i64 0),(Sl3.v Sl3.nil),(vS (⟨#[]⟩:ByteArray)),(vI .i64 0),(vI .i64 0),(vI .i64 0),(vS (⟨#[]⟩:ByteArray)),(Sl3.v Sl3.nil),(Sl3.v Sl3.nil),(Sl3.v Sl3.nil),(Sl3.v Sl3.nil),(vI .i64 1),(vB true),(vB false),(Sl3.v Sl3.nil),(vI .i64 0),(Sl3.v Sl3.nil),(vS (⟨#[]⟩:ByteArray)),(vI .i64 0),(vI .i64 0),(vI .i64 0),(vS (⟨#[]⟩:ByteArray)),(Sl3.v Sl3.nil),(Sl3.v Sl3.nil),(Sl3.v Sl3.nil),(Sl3.v Sl3.nil)] H5).bind fun (s6,H7) => (L.run (R8 L a1_0 a1_1 a1_2 a1_3 a2 s6 H7) (0,0)).bind fun o=>match o with
   | .inl (_,_) =>
    (d8 L m H7 s6).bind fun H15 => some (s6,true,H15)
   | .inr r=>some r
  else
   none
 else
  none
noncomputable def o7 (L:LC) (m:Nat) (_a1_0 _a1_1:Int) (_a1_2:ByteArray) (_a1_3:Sl3) (_a3_0:Int) (_a3_1 _a3_2:Bool) (_a3_3:Sl3) (_a3_4:Int) (_a3_5:Sl3) (_a3_6:ByteArray) (_a3_7 _a3_8 _a3_9:Int) (_a3_10:ByteArray) (_a3_11 _a3_12:Sl3) (_a3_13 _a3_14:Sl3) (x8_0:Int) (x8_1 x8_2:Bool) (x8_3:Sl3) (x8_4:Int) (x8_5:Sl3) (x8_6:ByteArray) (x8_7 x8_8 x8_9:Int) (x8_10:ByteArray) (x8_11 x8_12:Sl3) (x8_13 x8_14 x17:Sl3):(AH×Int×Int×Bool×Bool×Sl3×Int×Sl3×ByteArray×Int×Int×Int×ByteArray×Sl3×Sl3×Sl3×Sl3)→Option (Lp (AH×Int×Int×Bool×Bool×Sl3×Int×Sl3×ByteArray×Int×Int×Int×ByteArray×Sl3×Sl3×Sl3×Sl3) (Int×Bool×Bool×Sl3×Int×Sl3×ByteArray×Int×Int×Int×ByteArray×Sl3×Sl3×Sl3×Sl3×Bool×AH)):=fun (H21,v62_22,w4_23,w4_24,w4_25,w4_26,w4_27,w4_28,w4_29,w4_30,w4_31,w4_32,w4_33,w4_34,w4_35,w4_36,w4_37) =>
 if v62_22<(x17.n:Int) then
  Option.bind (α:=(AH×Int×Bool×Bool×Sl3×Int×Sl3×ByteArray×Int×Int×Int×ByteArray×Sl3×Sl3×Sl3×Sl3)) (
   (idxA 30 x17 v62_22).bind fun p54 => (rd (deI .i64) H21 (Addr.add p54 0)).bind fun x55_0 => (rd deB H21 (Addr.add p54 1)).bind fun x55_1 => (rd deB H21 (Addr.add p54 2)).bind fun x55_2 => (rd deSl H21 (Addr.add p54 3)).bind fun x55_3 => (rd (deI .i64) H21 (Addr.add p54 4)).bind fun x55_4 => (rd deSl H21 (Addr.add p54 5)).bind fun x55_5 => (rd deS H21 (Addr.add p54 6)).bind fun x55_6 => (rd (deI .i64) H21 (Addr.add p54 7)).bind fun x55_7 => (rd (deI .i64) H21 (Addr.add p54 8)).bind fun x55_8 => (rd (deI .i64) H21 (Addr.add p54 9)).bind fun x55_9 => (rd deS H21 (Addr.add p54 10)).bind fun x55_10 => (rd deSl H21 (Addr.add p54 11)).bind fun x55_11 => (rd deSl H21 (Addr.add p54 12)).bind fun x55_12 => (rd deSl H21 (Addr.add p54 13)).bind fun x55_13 => (rd deSl H21 (Addr.add p54 14)).bind fun x55_14 => (rd (deI .i64) H21 (Addr.add p54 15)).bind fun x55_15 => (rd deB H21 (Addr.add p54 16)).bind fun x55_16 => (rd deB H21 (Addr.add p54 17)).bind fun x55_17 => (rd deSl H21 (Addr.add p54 18)).bind fun x55_18 => (rd (deI .i64) H21 (Addr.add p54 19)).bind fun x55_19 => (rd deSl H21 (Addr.add p54 20)).bind fun x55_20 => (rd deS H21 (Addr.add p54 21)).bind fun x55_21 => (rd (deI .i64) H21 (Addr.add p54 22)).bind fun x55_22 => (rd (deI .i64) H21 (Addr.add p54 23)).bind fun x55_23 => (rd (deI .i64) H21 (Addr.add p54 24)).bind fun x55_24 => (rd deS H21 (Addr.add p54 25)).bind fun x55_25 => (rd deSl H21 (Addr.add p54 26)).bind fun x55_26 => (rd deSl H21 (Addr.add p54 27)).bind fun x55_27 => (rd deSl H21 (Addr.add p54 28)).bind fun x55_28 => (rd deSl H21 (Addr.add p54 29)).bind fun x55_29 => (Y1 L m H21 x55_15 x55_16 x55_17 x55_18 x55_19 x55_20 x55_21 x55_22 x55_23 x55_24 x55_25 x55_26 x55_27 x55_28 x55_29 x8_0 x8_1 x8_2 x8_3 x8_4 x8_5 x8_6 x8_7 x8_8 x8_9 x8_10 x8_11 x8_12 x8_13 x8_14).bind fun (x56,H57) => if x56=0 then
    some (H57,w4_23,w4_24,w4_25,w4_26,w4_27,w4_28,w4_29,w4_30,w4_31,w4_32,w4_33,w4_34,w4_35,w4_36,w4_37)
   else
    (newR 48 1 #[(vI .i64 x55_0),(vB x55_1),(vB x55_2),(Sl3.v x55_3),(vI .i64 x55_4),(Sl3.v x55_5),(vS x55_6),(vI .i64 x55_7),(vI .i64 x55_8),(vI .i64 x55_9),(vS x55_10),(Sl3.v x55_11),(Sl3.v x55_12),(Sl3.v x55_13),(Sl3.v x55_14),(vI .i64 x55_15),(vB x55_16),(vB x55_17),(Sl3.v x55_18),(vI .i64 x55_19),(Sl3.v x55_20),(vS x55_21),(vI .i64 x55_22),(vI .i64 x55_23),(vI .i64 x55_24),(vS x55_25),(Sl3.v x55_26),(Sl3.v x55_27),(Sl3.v x55_28),(Sl3.v x55_29)] H57).bind fun (s58,H59) => (appS m 48 30 464 H59 w4_36 s58).bind fun (s60,H61) => some (H61,w4_23,w4_24,w4_25,w4_26,w4_27,w4_28,w4_29,w4_30,w4_31,w4_32,w4_33,w4_34,w4_35,s60,w4_37)) fun (H38,w4_39,w4_40,w4_41,w4_42,w4_43,w4_44,w4_45,w4_46,w4_47,w4_48,w4_49,w4_50,w4_51,w4_52,w4_53) =>
  some (.next (H38,(IntKind.i64.wrap (v62_22+1)),w4_39,w4_40,w4_41,w4_42,w4_43,w4_44,w4_45,w4_46,w4_47,w4_48,w4_49,w4_50,w4_51,w4_52,w4_53))
 else
  some (.brk (H21,v62_22,w4_23,w4_24,w4_25,w4_26,w4_27,w4_28,w4_29,w4_30,w4_31,w4_32,w4_33,w4_34,w4_35,w4_36,w4_37))
def z5l (_L:LC) (_m:Nat) (a1_0 a1_1:Int) (a1_2:ByteArray) (a1_3:Sl3) (a3_0:Int) (a3_1 a3_2:Bool) (a3_3:Sl3) (a3_4:Int) (a3_5:Sl3) (a3_6:ByteArray) (a3_7 a3_8 a3_9:Int) (a3_10:ByteArray) (a3_11 a3_12:Sl3) (a3_13 a3_14:Sl3) (x8_0:Int) (x8_1 x8_2:Bool) (x8_3:Sl3) (x8_4:Int) (x8_5:Sl3) (x8_6:ByteArray) (x8_7 x8_8 x8_9:Int) (x8_10:ByteArray) (x8_11 x8_12:Sl3) (x8_13 x8_14 x17:Sl3):(AH×Int×Int×Bool×Bool×Sl3×Int×Sl3×ByteArray×Int×Int×Int×ByteArray×Sl3×Sl3×Sl3×Sl3)→KN×Lcs:=fun (_,v62_22,w4_23,w4_24,w4_25,w4_26,w4_27,w4_28,w4_29,w4_30,w4_31,w4_32,w4_33,w4_34,w4_35,w4_36,w4_37)=>([kI 62 v62_22,kL 8 2 0,kL 10 3 0,kL 15 4 0,kS 60 x17,kI 61 (x17.n:Int)],[some (32,[(vI .i64 a1_0),(vI .i64 a1_1),(vS a1_2),(Sl3.v a1_3)]),some (36,[(vI .i64 a3_0),(vB a3_1),(vB a3_2),(Sl3.v a3_3),(vI .i64 a3_4),(Sl3.v a3_5),(vS a3_6),(vI .i64 a3_7),(vI .i64 a3_8),(vI .i64 a3_9),(vS a3_10),(Sl3.v a3_11),(Sl3.v a3_12),(Sl3.v a3_13),(Sl3.v a3_14)]),some (36,[(vI .i64 0),(vB false),(vB false),(Sl3.v Sl3.nil),(vI .i64 0),(Sl3.v Sl3.nil),(vS (⟨#[]⟩:ByteArray)),(vI .i64 0),(vI .i64 0),(vI .i64 0),(vS (⟨#[]⟩:ByteArray)),(Sl3.v Sl3.nil),(Sl3.v Sl3.nil),(Sl3.v Sl3.nil),(Sl3.v Sl3.nil)]),some (36,[(vI .i64 x8_0),(vB x8_1),(vB x8_2),(Sl3.v x8_3),(vI .i64 x8_4),(Sl3.v x8_5),(vS x8_6),(vI .i64 x8_7),(vI .i64 x8_8),(vI .i64 x8_9),(vS x8_10),(Sl3.v x8_11),(Sl3.v x8_12),(Sl3.v x8_13),(Sl3.v x8_14)]),some (36,[(vI .i64 w4_23),(vB w4_24),(vB w4_25),(Sl3.v w4_26),(vI .i64 w4_27),(Sl3.v w4_28),(vS w4_29),(vI .i64 w4_30),(vI .i64 w4_31),(vI .i64 w4_32),(vS w4_33),(Sl3.v w4_34),(Sl3.v w4_35),(Sl3.v w4_36),(Sl3.v w4_37)])])
noncomputable def S6 (L:LC) (rec_value_book_all:Nat→AH→(Option Addr)→Int→Int→ByteArray→Sl3→Int→Option (Sl3×Bool×AH)) (m:Nat) (H:AH) (a0:Option Addr) (a1_0 a1_1:Int) (a1_2:ByteArray) (a1_3 a2:Sl3) (a3_0:Int) (a3_1 a3_2:Bool) (a3_3:Sl3) (a3_4:Int) (a3_5:Sl3) (a3_6:ByteArray) (a3_7 a3_8 a3_9:Int) (a3_10:ByteArray) (a3_11 a3_12:Sl3) (a3_13 a3_14:Sl3):Option (Int×Bool×Bool×Sl3×Int×Sl3×ByteArray×Int×Int×Int×ByteArray×Sl3×Sl3×Sl3×Sl3×Bool×AH) :=
 (idxA 4 a1_3 0).bind fun p1 => (rd (deI .i64) H (Addr.add p1 0)).bind fun x2_0 => (rd (deI .i64) H (Addr.add p1 1)).bind fun x2_1 => (rd deS H (Addr.add p1 2)).bind fun x2_2 => (rd deSl H (Addr.add p1 3)).bind fun x2_3 => a0.bind fun q3 => (rd deSl H (Addr.add (Addr.add q3 0) 0)).bind fun x4_0 => (rd deSl H (Addr.add (Addr.add q3 0) 1)).bind fun x4_1 => (rd deSl H (Addr.add (Addr.add q3 0) 2)).bind fun x4_2 => (zm L m H x2_0 x2_1 x2_2 x2_3 x4_0 x4_1 x4_2 131072).bind fun (x5,x6,H7) => if x6=true then
  (Q7 L m H7 a2 a3_0 a3_1 a3_2 a3_3 a3_4 a3_5 a3_6 a3_7 a3_8 a3_9 a3_10 a3_11 a3_12 a3_13 a3_14 x5).bind fun (x8_0,x8_1,x8_2,x8_3,x8_4,x8_5,x8_6,x8_7,x8_8,x8_9,x8_10,x8_11,x8_12,x8_13,x8_14,H9) => (Y1 L m H9 x8_0 x8_1 x8_2 x8_3 x8_4 x8_5 x8_6 x8_7 x8_8 x8_9 x8_10 x8_11 x8_12 x8_13 x8_14 a3_0 a3_1 a3_2 a3_3 a3_4 a3_5 a3_6 a3_7 a3_8 a3_9 a3_10 a3_11 a3_12 a3_13 a3_14).bind fun (x10,H11) => if x10=0 then
   none
  else
   (idxA 4 a1_3 0).bind fun p12 => (rd (deI .i64) H11 (Addr.add p12 0)).bind fun x13_0 => (rd (deI .i64) H11 (Addr.add p12 1)).bind fun x13_1 => (rd deS H11 (Addr.add p12 2)).bind fun x13_2 => (rd deSl H11 (Addr.add p12 3)).bind fun x13_3 => (rec_value_book_all m H11 (some q3) x13_0 x13_1 x13_2 x13_3 131072).bind fun (x14,x15,H16) => if x15=true then
    (zg L m H16 a2 x14 a3_0 a3_1 a3_2 a3_3 a3_4 a3_5 a3_6 a3_7 a3_8 a3_9 a3_10 a3_11 a3_12 a3_13 a3_14).bind fun (x17,H18) => (newR 36 1 #[(vI .i64 x8_0),(vB x8_1),(vB x8_2),(Sl3.v x8_3),(vI .i64 x8_4),(Sl3.v x8_5),(vS x8_6),(vI .i64 x8_7),(vI .i64 x8_8),(vI .i64 x8_9),(vS x8_10),(Sl3.v x8_11),(Sl3.v x8_12),(Sl3.v x8_13),(Sl3.v x8_14)] H18).bind fun (s19,H20) => (L.run (o7 L m a1_0 a1_1 a1_2 a1_3 a3_0 a3_1 a3_2 a3_3 a3_4 a3_5 a3_6 a3_7 a3_8 a3_9 a3_10 a3_11 a3_12 a3_13 a3_14 x8_0 x8_1 x8_2 x8_3 x8_4 x8_5 x8_6 x8_7 x8_8 x8_9 x8_10 x8_11 x8_12 x8_13 x8_14 x17) (H20,0,5,false,false,Sl3.nil,0,Sl3.nil,(⟨#[]⟩:ByteArray),0,a1_0,a1_1,a1_2,a1_3,Sl3.nil,Sl3.nil,s19)).bind fun o=>match o with
    | .inl (_,_,_,_,_,_,_,_,_,_,_,_,_,_,_,_,_) =>
     none
    | .inr r=>some r
   else
    none
 else
  none
noncomputable def l6 (L:LC) (n:Nat):(Nat→AH→(Option Addr)→Int→Int→ByteArray→Sl3→Int→Option (Sl3×Bool×AH))×(Nat→AH→(Option Addr)→Int→Int→ByteArray→Sl3→Sl3→Int→Bool→Bool→Sl3→Int→Sl3→ByteArray→Int→Int→Int→ByteArray→Sl3→Sl3→Sl3→Sl3→Option (Int×Bool×Bool×Sl3×Int×Sl3×ByteArray×Int×Int×Int×ByteArray×Sl3×Sl3×Sl3×Sl3×Bool×AH)):=Nat.rec (motive:=fun _=>(Nat→AH→(Option Addr)→Int→Int→ByteArray→Sl3→Int→Option (Sl3×Bool×AH))×(Nat→AH→(Option Addr)→Int→Int→ByteArray→Sl3→Sl3→Int→Bool→Bool→Sl3→Int→Sl3→ByteArray→Int→Int→Int→ByteArray→Sl3→Sl3→Sl3→Sl3→Option (Int×Bool×Bool×Sl3×Int×Sl3×ByteArray×Int×Int×Int×ByteArray×Sl3×Sl3×Sl3×Sl3×Bool×AH))) ((fun _ _ _ _ _ _ _ _=>none),(fun _ _ _ _ _ _ _ _ _ _ _ _ _ _ _ _ _ _ _ _ _ _ _=>none)) (fun _ p=>(G7 L,S6 L p.1)) n
noncomputable def z62 (L:LC) (m:Nat) (H:AH) (a0:Option Addr) (a1_0 a1_1:Int) (a1_2:ByteArray) (a1_3:Sl3) (a2:Int):Option (Sl3×Bool×AH):=((l6 L L.fuel).1) m H a0 a1_0 a1_1 a1_2 a1_3 a2
noncomputable def z4j (L:LC) (m:Nat) (H:AH) (a0:Option Addr) (a1_0 a1_1:Int) (a1_2:ByteArray) (a1_3 a2:Sl3) (a3_0:Int) (a3_1 a3_2:Bool) (a3_3:Sl3) (a3_4:Int) (a3_5:Sl3) (a3_6:ByteArray) (a3_7 a3_8 a3_9:Int) (a3_10:ByteArray) (a3_11 a3_12:Sl3) (a3_13 a3_14:Sl3):Option (Int×Bool×Bool×Sl3×Int×Sl3×ByteArray×Int×Int×Int×ByteArray×Sl3×Sl3×Sl3×Sl3×Bool×AH):=((l6 L L.fuel).2) m H a0 a1_0 a1_1 a1_2 a1_3 a2 a3_0 a3_1 a3_2 a3_3 a3_4 a3_5 a3_6 a3_7 a3_8 a3_9 a3_10 a3_11 a3_12 a3_13 a3_14
theorem zu {E m H L a1_0 a1_1 a1_2 a1_3 a2 s6 H7} :LoopF Tryz.prog (NE.plain 99) m E Tryz.f124 ((cfst (csnd (cfst (csnd (csnd (csnd (csnd (csnd (csnd (csnd (csnd B124)))))))))))) (z78 L a1_0 a1_1 a1_2 a1_3 a2 s6 H7) (fun _=>H7) 3 j4 (G4 H) (R8 L a1_0 a1_1 a1_2 a1_3 a2 s6 H7):=by
 rintro ⟨v13_8,v75_9⟩ o h
 unfold R8 at h;try dsimp only at h
 refine t0 (A0 (g0 1 [kB 76 (decide (v75_9<(s6.n:Int)))] (u0 (m0 (t0 ?_)))));rcases J1 h with ⟨hp,h⟩ | ⟨hp,h⟩
 ·refine B0 76 true (decide_eq_true hp) (E0 (M0 (m0 (t0 (P0 4 (t0 (A0 ?_)))))));obtain ⟨p10,hx,h⟩:=bind_some h;refine RS.ix 77 33 36 (.tmp 73) (.tmp 75) hx ?_;obtain ⟨x11_0,hx0,h⟩:=bind_some h;obtain ⟨x11_1,hx1,h⟩:=bind_some h;obtain ⟨x11_2,hx2,h⟩:=bind_some h;obtain ⟨x11_3,hx3,h⟩:=bind_some h;obtain ⟨x11_4,hx4,h⟩:=bind_some h;obtain ⟨x11_5,hx5,h⟩:=bind_some h;obtain ⟨x11_6,hx6,h⟩:=bind_some h;obtain ⟨x11_7,hx7,h⟩:=bind_some h;obtain ⟨x11_8,hx8,h⟩:=bind_some h;obtain ⟨x11_9,hx9,h⟩:=bind_some h;obtain ⟨x11_10,hx10,h⟩:=bind_some h;obtain ⟨x11_11,hx11,h⟩:=bind_some h;obtain ⟨x11_12,hx12,h⟩:=bind_some h;obtain ⟨x11_13,hx13,h⟩:=bind_some h;obtain ⟨x11_14,hx14,h⟩:=bind_some h;refine E1 78 36 (.tmp 77) 15 (G1 (I1 hx0 N1) (G1 (I1 hx1 j2) (G1 (I1 hx2 j2) (G1 (I1 hx3 M1) (G1 (I1 hx4 N1) (G1 (I1 hx5 M1) (G1 (I1 hx6 X1) (G1 (I1 hx7 N1) (G1 (I1 hx8 N1) (G1 (I1 hx9 N1) (G1 (I1 hx10 X1) (G1 (I1 hx11 M1) (G1 (I1 hx12 M1) (G1 (I1 hx13 M1) (G1 (I1 hx14 M1) T2))))))))))))))) (O0 2 [kL 15 1 0] ([some (32,[(vI .i64 a1_0),(vI .i64 a1_1),(vS a1_2),(Sl3.v a1_3)]),some (36,[(vI .i64 x11_0),(vB x11_1),(vB x11_2),(Sl3.v x11_3),(vI .i64 x11_4),(Sl3.v x11_5),(vS x11_6),(vI .i64 x11_7),(vI .i64 x11_8),(vI .i64 x11_9),(vS x11_10),(Sl3.v x11_11),(Sl3.v x11_12),(Sl3.v x11_13),(Sl3.v x11_14)])]) (u0 (m0 (t0 (A0 (g0 2 [kA 80 #[(vI .i64 x11_0),(vB x11_1),(vB x11_2),(Sl3.v x11_3),(vI .i64 x11_4),(Sl3.v x11_5),(vS x11_6),(vI .i64 x11_7),(vI .i64 x11_8),(vI .i64 x11_9),(vS x11_10),(Sl3.v x11_11),(Sl3.v x11_12),(Sl3.v x11_13),(Sl3.v x11_14)],kI 79 v13_8] ?_))))));obtain ⟨x12,hx,h⟩:=bind_some h;refine RS.cl (some 81) (v:=(vI .i64 x12)) 61 _ (z1e hx) (g0 2 [kI 13 (IntKind.i64.wrap (v13_8+x12)),kI 82 (IntKind.i64.wrap (v13_8+x12))] (u0 (m0 (t0 (A0 (g0 3 [kB 85 (decide ((IntKind.i64.wrap (v13_8+x12)) > a2)),kI 84 a2,kI 83 (IntKind.i64.wrap (v13_8+x12))] (u0 (m0 ?_))))))));rcases J1 h with ⟨hp,h⟩ | ⟨hp,h⟩
  ·refine B0 85 true (decide_eq_true hp) (E0 ?_);cases h
  ·refine B0 85 false (decide_eq_false hp) (D0 (M0 ?_));refine fun a w hs=>bkN ((m0 ?_ a w hs));refine A0 (g0 2 [kI 75 (IntKind.i64.wrap (v75_9+1)),kI 86 (IntKind.i64.wrap (v75_9+1))] (u0 ?_));cases h;exact fun a w hs=>lsN rfl (hs.sb 1)
 ·refine B0 76 false (decide_eq_false hp) (D0 (WS.ex 3 ?_));cases h;exact fun a w hs=>sqE (lsB rfl (hs.sb 1))
theorem z5o {L:LC} {m:Nat} {H:AH} {a0:Option Addr} {a1_0 a1_1:Int} {a1_2:ByteArray} {a1_3:Sl3} {a2:Int} {r:(Sl3×Bool×AH)} (h:G7 L m H a0 a1_0 a1_1 a1_2 a1_3 a2=some r) :
  CallS Tryz.prog (NE.plain 99) m 124 #[(vP a0),(vA #[(vI .i64 a1_0),(vI .i64 a1_1),(vS a1_2),(Sl3.v a1_3)]),(vI .i64 a2)] H (j4 r) (G4 H r):=by
 refine CallS.mk (args:=[(vP a0),(vA #[(vI .i64 a1_0),(vI .i64 a1_1),(vS a1_2),(Sl3.v a1_3)]),(vI .i64 a2)]) Tryz.func124 (B:=B124) (by kernel_rfl) (fun E _=>?_);unfold G7 at h;refine t0 (A0 (O0 3 [kB 7 false,kS 6 Sl3.nil,kL 4 0 0] ([some (32,[(vI .i64 a1_0),(vI .i64 a1_1),(vS a1_2),(Sl3.v a1_3)])]) (u0 (m0 (t0 ?_)))));refine C1 [0,1,2,3,4] [0,0,2,6,14,0,63,127,255,255,511,2047] 12 (fun hcl=>?_);refine Q0 0 (some 17) (.val (vA #[(vI .i64 a1_0),(vI .i64 a1_1),(vS a1_2),(Sl3.v a1_3)])) (S0 1 (some 18) (vP a0) ?_);obtain ⟨q1,hx,hq1⟩:=bind_some h;subst hx;have h:=hq1;refine S0 2 (some 19) (vP (some q1)) (S0 3 (some 20) (vP (some (Addr.add q1 0))) ?_);obtain ⟨x2_0,hx0,h⟩:=bind_some h;obtain ⟨x2_1,hx1,h⟩:=bind_some h;obtain ⟨x2_2,hx2,h⟩:=bind_some h;refine Z0 4 (some 21) (vA #[(Sl3.v x2_0),(Sl3.v x2_1),(Sl3.v x2_2)]) (Abs.det_loadA (t:=62) (x:=.tmp 20) (a:=(Addr.add q1 0)) (k:=3) (by kernel_rfl) (by kernel_rfl) (by kernel_rfl) (by kernel_rfl) (G1 (I1 hx0 M1) (G1 (I1 hx1 M1) (G1 (I1 hx2 M1) T2)))) (N0 5 (some 22) (vI .i64 a2) ?_);obtain ⟨⟨x3,x4,H5⟩,hx,h⟩:=bind_some h;try dsimp only at h
 refine DA.on 6 (J0 6 (some 23) (v:=(Value.tuple #[(vI .i64 x3),(vB x4)])) 122 #[(vA #[(vI .i64 a1_0),(vI .i64 a1_1),(vS a1_2),(Sl3.v a1_3)]),(vA #[(Sl3.v x2_0),(Sl3.v x2_1),(Sl3.v x2_2)]),(vI .i64 a2)] (z2o hx) (N0 7 (some 16) (Value.tuple #[(vI .i64 x3),(vB x4)]) (N0 8 (some 24) (vI .i64 x3) (N0 9 (some 25) (vB x4) (N0 10 (some 8) (vI .i64 x3) (N0 11 (some 9) (vB x4) (K0 (m0 (t0 ?_)))))))));refine t0 (A0 (g0 2 [kB 27 (!x4),kB 26 x4] (u0 (m0 ?_))));rcases J1 h with ⟨hp,h⟩ | ⟨hp,h⟩
 ·refine B0 27 false (nb_not hp) (D0 (M0 (m0 (t0 (A0 (g0 1 [kS 10 Sl3.nil] (u0 (m0 (t0 ?_)))))))));refine A0 (g0 1 [kB 11 true] (u0 (m0 (t0 (t0 (A0 (g0 2 [kI 29 a1_0,kL 28 0 0] (u0 (m0 ?_)))))))));refine P0 0 (t0 (A0 (g0 2 [kB 30 (decide (a1_0=1)),kB 31 (decide (a1_0=1))] (u0 (m0 ?_)))));rcases J1 h with ⟨hp,h⟩ | ⟨hp,h⟩
  ·refine B0 30 true (decide_eq_true hp) (E0 (A0 (g0 2 [kA 33 #[(vI .i64 1),(vB true),(vB false),(Sl3.v Sl3.nil),(vI .i64 0),(Sl3.v Sl3.nil),(vS (⟨#[]⟩:ByteArray)),(vI .i64 0),(vI .i64 0),(vI .i64 0),(vS (⟨#[]⟩:ByteArray)),(Sl3.v Sl3.nil),(Sl3.v Sl3.nil),(Sl3.v Sl3.nil),(Sl3.v Sl3.nil)],kA 32 #[(vI .i64 1),(vB false),(vB false),(Sl3.v Sl3.nil),(vI .i64 0),(Sl3.v Sl3.nil),(vS (⟨#[]⟩:ByteArray)),(vI .i64 0),(vI .i64 0),(vI .i64 0),(vS (⟨#[]⟩:ByteArray)),(Sl3.v Sl3.nil),(Sl3.v Sl3.nil),(Sl3.v Sl3.nil),(Sl3.v Sl3.nil)]] ?_)));obtain ⟨⟨s6,H7⟩,hx,h⟩:=bind_some h;try dsimp only at h
   refine T0 (H':=H7) (some 34) (Sl3.v s6) (Abs.run_newR (by kernel_rfl) (by kernel_rfl) hx) (g0 1 [kS 10 s6] (u0 ?_));refine fun a w hs=>bkN ((m0 ?_ a w hs));refine t0 (t0 (A0 (g0 2 [kB 72 false,kB 71 true] (u0 (m0 (D0 (M0 (m0 (t0 ?_)))))))));refine A0 (g0 1 [kI 13 0] (u0 (m0 (t0 (t0 (A0 (g0 3 [kI 75 0,kI 74 (s6.n:Int),kS 73 s6] (u0 (m0 ?_)))))))));refine P0 3 ?_;obtain ⟨o,hl,h⟩:=bind_some h;rcases o with ⟨v13_13,v75_14⟩ | r
   ·try dsimp only at h
    refine Y0 (zu (L:=L) (E:=E) (m:=m) (H:=H)) (L.ok hl) 1 ?_;clear hl;refine fun a w hs=>bkE ((m0 ?_ a w hs));refine t0 (A0 (g0 1 [kS 87 s6] ?_));obtain ⟨H15,hx,h⟩:=bind_some h;refine RS.cl (some 88) (v:=(Value.tuple #[])) 146 _ (z5x hx) (u0 (m0 (t0 (A0 (g0 3 [kB 7 true,kS 6 s6,kS 89 s6] (u0 (m0 (C0 ?_))))))));cases h;exact fun a w hs=>rtR (rS hs)
   ·try dsimp only at h
    refine X0 (zu (L:=L) (E:=E) (m:=m) (H:=H)) (L.ok hl) 1 ?_;cases h;exact fun a w hq=>bkR (sqR (rtR hq))
  ·refine B0 30 false (decide_eq_false hp) (D0 ?_);cases h
 ·refine B0 27 true (Q4 hp) (E0 ?_);cases h
theorem m9 {E H L m a1_0 a1_1 a1_2 a1_3 a3_0 a3_1 a3_2 a3_3 a3_4 a3_5 a3_6 a3_7 a3_8 a3_9 a3_10 a3_11 a3_12 a3_13 a3_14 x8_0 x8_1 x8_2 x8_3 x8_4 x8_5 x8_6 x8_7 x8_8 x8_9 x8_10 x8_11 x8_12 x8_13 x8_14 x17} :LoopF Tryz.prog (NE.plain 99) m E Tryz.f97 ((cfst (csnd (cfst (csnd (csnd (csnd (csnd (csnd B97))))))))) (z5l L m a1_0 a1_1 a1_2 a1_3 a3_0 a3_1 a3_2 a3_3 a3_4 a3_5 a3_6 a3_7 a3_8 a3_9 a3_10 a3_11 a3_12 a3_13 a3_14 x8_0 x8_1 x8_2 x8_3 x8_4 x8_5 x8_6 x8_7 x8_8 x8_9 x8_10 x8_11 x8_12 x8_13 x8_14 x17) (fun s=>s.1) 0 C4 (M4 H) (o7 L m a1_0 a1_1 a1_2 a1_3 a3_0 a3_1 a3_2 a3_3 a3_4 a3_5 a3_6 a3_7 a3_8 a3_9 a3_10 a3_11 a3_12 a3_13 a3_14 x8_0 x8_1 x8_2 x8_3 x8_4 x8_5 x8_6 x8_7 x8_8 x8_9 x8_10 x8_11 x8_12 x8_13 x8_14 x17):=by
 rintro ⟨H21,v62_22,w4_23,w4_24,w4_25,w4_26,w4_27,w4_28,w4_29,w4_30,w4_31,w4_32,w4_33,w4_34,w4_35,w4_36,w4_37⟩ o h
 unfold o7 at h;try dsimp only at h
 refine t0 (A0 (g0 1 [kB 63 (decide (v62_22<(x17.n:Int)))] (u0 (m0 (t0 ?_)))));rcases J1 h with ⟨hp,h⟩ | ⟨hp,h⟩
 ·refine B0 63 true (decide_eq_true hp) (E0 (M0 (m0 ?_)));obtain ⟨⟨H38,w4_39,w4_40,w4_41,w4_42,w4_43,w4_44,w4_45,w4_46,w4_47,w4_48,w4_49,w4_50,w4_51,w4_52,w4_53⟩,hx,h⟩:=bind_some h;try dsimp only at h
  refine t0 ?_;refine WS.join ([kL 8 2 0,kL 10 3 0,kL 15 4 0,kS 60 x17,kI 61 (x17.n:Int),kI 62 v62_22]) ([some (32,[(vI .i64 a1_0),(vI .i64 a1_1),(vS a1_2),(Sl3.v a1_3)]),some (36,[(vI .i64 a3_0),(vB a3_1),(vB a3_2),(Sl3.v a3_3),(vI .i64 a3_4),(Sl3.v a3_5),(vS a3_6),(vI .i64 a3_7),(vI .i64 a3_8),(vI .i64 a3_9),(vS a3_10),(Sl3.v a3_11),(Sl3.v a3_12),(Sl3.v a3_13),(Sl3.v a3_14)]),some (36,[(vI .i64 0),(vB false),(vB false),(Sl3.v Sl3.nil),(vI .i64 0),(Sl3.v Sl3.nil),(vS (⟨#[]⟩:ByteArray)),(vI .i64 0),(vI .i64 0),(vI .i64 0),(vS (⟨#[]⟩:ByteArray)),(Sl3.v Sl3.nil),(Sl3.v Sl3.nil),(Sl3.v Sl3.nil),(Sl3.v Sl3.nil)]),some (36,[(vI .i64 x8_0),(vB x8_1),(vB x8_2),(Sl3.v x8_3),(vI .i64 x8_4),(Sl3.v x8_5),(vS x8_6),(vI .i64 x8_7),(vI .i64 x8_8),(vI .i64 x8_9),(vS x8_10),(Sl3.v x8_11),(Sl3.v x8_12),(Sl3.v x8_13),(Sl3.v x8_14)]),some (36,[(vI .i64 w4_39),(vB w4_40),(vB w4_41),(Sl3.v w4_42),(vI .i64 w4_43),(Sl3.v w4_44),(vS w4_45),(vI .i64 w4_46),(vI .i64 w4_47),(vI .i64 w4_48),(vS w4_49),(Sl3.v w4_50),(Sl3.v w4_51),(Sl3.v w4_52),(Sl3.v w4_53)])]) H38 ?_ (fun a w hs=>m0 ?_ a w hs)
  ·clear h; rename _=>h;refine P0 1 (t0 (A0 ?_));obtain ⟨p54,hx,h⟩:=bind_some h;refine RS.ix 64 34 48 (.tmp 60) (.tmp 62) hx ?_;obtain ⟨x55_0,hx0,h⟩:=bind_some h;obtain ⟨x55_1,hx1,h⟩:=bind_some h;obtain ⟨x55_2,hx2,h⟩:=bind_some h;obtain ⟨x55_3,hx3,h⟩:=bind_some h;obtain ⟨x55_4,hx4,h⟩:=bind_some h;obtain ⟨x55_5,hx5,h⟩:=bind_some h;obtain ⟨x55_6,hx6,h⟩:=bind_some h;obtain ⟨x55_7,hx7,h⟩:=bind_some h;obtain ⟨x55_8,hx8,h⟩:=bind_some h;obtain ⟨x55_9,hx9,h⟩:=bind_some h;obtain ⟨x55_10,hx10,h⟩:=bind_some h;obtain ⟨x55_11,hx11,h⟩:=bind_some h;obtain ⟨x55_12,hx12,h⟩:=bind_some h;obtain ⟨x55_13,hx13,h⟩:=bind_some h;obtain ⟨x55_14,hx14,h⟩:=bind_some h;obtain ⟨x55_15,hx15,h⟩:=bind_some h;obtain ⟨x55_16,hx16,h⟩:=bind_some h;obtain ⟨x55_17,hx17,h⟩:=bind_some h;obtain ⟨x55_18,hx18,h⟩:=bind_some h;obtain ⟨x55_19,hx19,h⟩:=bind_some h;obtain ⟨x55_20,hx20,h⟩:=bind_some h;obtain ⟨x55_21,hx21,h⟩:=bind_some h;obtain ⟨x55_22,hx22,h⟩:=bind_some h;obtain ⟨x55_23,hx23,h⟩:=bind_some h;obtain ⟨x55_24,hx24,h⟩:=bind_some h;obtain ⟨x55_25,hx25,h⟩:=bind_some h;obtain ⟨x55_26,hx26,h⟩:=bind_some h;obtain ⟨x55_27,hx27,h⟩:=bind_some h;obtain ⟨x55_28,hx28,h⟩:=bind_some h;obtain ⟨x55_29,hx29,h⟩:=bind_some h;refine E1 65 48 (.tmp 64) 30 (G1 (I1 hx0 N1) (G1 (I1 hx1 j2) (G1 (I1 hx2 j2) (G1 (I1 hx3 M1) (G1 (I1 hx4 N1) (G1 (I1 hx5 M1) (G1 (I1 hx6 X1) (G1 (I1 hx7 N1) (G1 (I1 hx8 N1) (G1 (I1 hx9 N1) (G1 (I1 hx10 X1) (G1 (I1 hx11 M1) (G1 (I1 hx12 M1) (G1 (I1 hx13 M1) (G1 (I1 hx14 M1) (G1 (I1 hx15 N1) (G1 (I1 hx16 j2) (G1 (I1 hx17 j2) (G1 (I1 hx18 M1) (G1 (I1 hx19 N1) (G1 (I1 hx20 M1) (G1 (I1 hx21 X1) (G1 (I1 hx22 N1) (G1 (I1 hx23 N1) (G1 (I1 hx24 N1) (G1 (I1 hx25 X1) (G1 (I1 hx26 M1) (G1 (I1 hx27 M1) (G1 (I1 hx28 M1) (G1 (I1 hx29 M1) T2)))))))))))))))))))))))))))))) (O0 2 [kL 17 5 0] ([some (32,[(vI .i64 a1_0),(vI .i64 a1_1),(vS a1_2),(Sl3.v a1_3)]),some (36,[(vI .i64 a3_0),(vB a3_1),(vB a3_2),(Sl3.v a3_3),(vI .i64 a3_4),(Sl3.v a3_5),(vS a3_6),(vI .i64 a3_7),(vI .i64 a3_8),(vI .i64 a3_9),(vS a3_10),(Sl3.v a3_11),(Sl3.v a3_12),(Sl3.v a3_13),(Sl3.v a3_14)]),some (36,[(vI .i64 0),(vB false),(vB false),(Sl3.v Sl3.nil),(vI .i64 0),(Sl3.v Sl3.nil),(vS (⟨#[]⟩:ByteArray)),(vI .i64 0),(vI .i64 0),(vI .i64 0),(vS (⟨#[]⟩:ByteArray)),(Sl3.v Sl3.nil),(Sl3.v Sl3.nil),(Sl3.v Sl3.nil),(Sl3.v Sl3.nil)]),some (36,[(vI .i64 x8_0),(vB x8_1),(vB x8_2),(Sl3.v x8_3),(vI .i64 x8_4),(Sl3.v x8_5),(vS x8_6),(vI .i64 x8_7),(vI .i64 x8_8),(vI .i64 x8_9),(vS x8_10),(Sl3.v x8_11),(Sl3.v x8_12),(Sl3.v x8_13),(Sl3.v x8_14)]),some (36,[(vI .i64 w4_23),(vB w4_24),(vB w4_25),(Sl3.v w4_26),(vI .i64 w4_27),(Sl3.v w4_28),(vS w4_29),(vI .i64 w4_30),(vI .i64 w4_31),(vI .i64 w4_32),(vS w4_33),(Sl3.v w4_34),(Sl3.v w4_35),(Sl3.v w4_36),(Sl3.v w4_37)]),some (48,[(vI .i64 x55_0),(vB x55_1),(vB x55_2),(Sl3.v x55_3),(vI .i64 x55_4),(Sl3.v x55_5),(vS x55_6),(vI .i64 x55_7),(vI .i64 x55_8),(vI .i64 x55_9),(vS x55_10),(Sl3.v x55_11),(Sl3.v x55_12),(Sl3.v x55_13),(Sl3.v x55_14),(vI .i64 x55_15),(vB x55_16),(vB x55_17),(Sl3.v x55_18),(vI .i64 x55_19),(Sl3.v x55_20),(vS x55_21),(vI .i64 x55_22),(vI .i64 x55_23),(vI .i64 x55_24),(vS x55_25),(Sl3.v x55_26),(Sl3.v x55_27),(Sl3.v x55_28),(Sl3.v x55_29)])]) (u0 (m0 (t0 (A0 (g0 3 [kA 68 #[(vI .i64 x8_0),(vB x8_1),(vB x8_2),(Sl3.v x8_3),(vI .i64 x8_4),(Sl3.v x8_5),(vS x8_6),(vI .i64 x8_7),(vI .i64 x8_8),(vI .i64 x8_9),(vS x8_10),(Sl3.v x8_11),(Sl3.v x8_12),(Sl3.v x8_13),(Sl3.v x8_14)],kA 67 #[(vI .i64 x55_15),(vB x55_16),(vB x55_17),(Sl3.v x55_18),(vI .i64 x55_19),(Sl3.v x55_20),(vS x55_21),(vI .i64 x55_22),(vI .i64 x55_23),(vI .i64 x55_24),(vS x55_25),(Sl3.v x55_26),(Sl3.v x55_27),(Sl3.v x55_28),(Sl3.v x55_29)],kL 66 5 15] ?_))))));obtain ⟨⟨x56,H57⟩,hx,h⟩:=bind_some h;try dsimp only at h
   refine RS.cl (some 69) (v:=(vI .i64 x56)) 4 _ (T1 hx) (g0 1 [kB 70 (!decide (x56=0))] (u0 (m0 ?_)));rcases J1 h with ⟨hp,h⟩ | ⟨hp,h⟩
   ·refine B0 70 false (C2 hp) (D0 (M0 ?_));cases h;exact fun a w hs=>bkN ((jsN (hs.sb 5)))
   ·refine B0 70 true (A2 hp) (E0 (A0 (g0 3 [kA 73 #[(vI .i64 x55_0),(vB x55_1),(vB x55_2),(Sl3.v x55_3),(vI .i64 x55_4),(Sl3.v x55_5),(vS x55_6),(vI .i64 x55_7),(vI .i64 x55_8),(vI .i64 x55_9),(vS x55_10),(Sl3.v x55_11),(Sl3.v x55_12),(Sl3.v x55_13),(Sl3.v x55_14),(vI .i64 x55_15),(vB x55_16),(vB x55_17),(Sl3.v x55_18),(vI .i64 x55_19),(Sl3.v x55_20),(vS x55_21),(vI .i64 x55_22),(vI .i64 x55_23),(vI .i64 x55_24),(vS x55_25),(Sl3.v x55_26),(Sl3.v x55_27),(Sl3.v x55_28),(Sl3.v x55_29)],kS 72 w4_36,kL 71 4 13] ?_)));obtain ⟨⟨s58,H59⟩,hx,h⟩:=bind_some h;try dsimp only at h
    refine T0 (H':=H59) (some 74) (Sl3.v s58) (Abs.run_newR (by kernel_rfl) (by kernel_rfl) hx) ?_;obtain ⟨⟨s60,H61⟩,hx,h⟩:=bind_some h;try dsimp only at h
    refine T0 (H':=H61) (some 75) (Sl3.v s60) (Abs.run_app (x:=.tmp 72) (y:=.tmp 74) (ts:=#[34,34]) (s:=w4_36) (z:=s58) (by kernel_rfl) (by kernel_rfl) (by kernel_rfl) (by kernel_rfl) hx) (O0 2 [kL 76 4 13] ([some (32,[(vI .i64 a1_0),(vI .i64 a1_1),(vS a1_2),(Sl3.v a1_3)]),some (36,[(vI .i64 a3_0),(vB a3_1),(vB a3_2),(Sl3.v a3_3),(vI .i64 a3_4),(Sl3.v a3_5),(vS a3_6),(vI .i64 a3_7),(vI .i64 a3_8),(vI .i64 a3_9),(vS a3_10),(Sl3.v a3_11),(Sl3.v a3_12),(Sl3.v a3_13),(Sl3.v a3_14)]),some (36,[(vI .i64 0),(vB false),(vB false),(Sl3.v Sl3.nil),(vI .i64 0),(Sl3.v Sl3.nil),(vS (⟨#[]⟩:ByteArray)),(vI .i64 0),(vI .i64 0),(vI .i64 0),(vS (⟨#[]⟩:ByteArray)),(Sl3.v Sl3.nil),(Sl3.v Sl3.nil),(Sl3.v Sl3.nil),(Sl3.v Sl3.nil)]),some (36,[(vI .i64 x8_0),(vB x8_1),(vB x8_2),(Sl3.v x8_3),(vI .i64 x8_4),(Sl3.v x8_5),(vS x8_6),(vI .i64 x8_7),(vI .i64 x8_8),(vI .i64 x8_9),(vS x8_10),(Sl3.v x8_11),(Sl3.v x8_12),(Sl3.v x8_13),(Sl3.v x8_14)]),some (36,[(vI .i64 w4_23),(vB w4_24),(vB w4_25),(Sl3.v w4_26),(vI .i64 w4_27),(Sl3.v w4_28),(vS w4_29),(vI .i64 w4_30),(vI .i64 w4_31),(vI .i64 w4_32),(vS w4_33),(Sl3.v w4_34),(Sl3.v w4_35),(Sl3.v s60),(Sl3.v w4_37)]),some (48,[(vI .i64 x55_0),(vB x55_1),(vB x55_2),(Sl3.v x55_3),(vI .i64 x55_4),(Sl3.v x55_5),(vS x55_6),(vI .i64 x55_7),(vI .i64 x55_8),(vI .i64 x55_9),(vS x55_10),(Sl3.v x55_11),(Sl3.v x55_12),(Sl3.v x55_13),(Sl3.v x55_14),(vI .i64 x55_15),(vB x55_16),(vB x55_17),(Sl3.v x55_18),(vI .i64 x55_19),(Sl3.v x55_20),(vS x55_21),(vI .i64 x55_22),(vI .i64 x55_23),(vI .i64 x55_24),(vS x55_25),(Sl3.v x55_26),(Sl3.v x55_27),(Sl3.v x55_28),(Sl3.v x55_29)])]) (u0 ?_));cases h;exact fun a w hs=>bkN ((jsN (hs.sb 5)))
  ·clear hx;refine A0 (g0 2 [kI 62 (IntKind.i64.wrap (v62_22+1)),kI 77 (IntKind.i64.wrap (v62_22+1))] (u0 ?_));cases h;exact fun a w hs=>lsN rfl (hs.sb 5)
 ·refine B0 63 false (decide_eq_false hp) (D0 (WS.ex 0 ?_));cases h;exact fun a w hs=>sqE (lsB rfl (hs.sb 5))
theorem z4q {L:LC} {rec_value_book_all:Nat→AH→(Option Addr)→Int→Int→ByteArray→Sl3→Int→Option (Sl3×Bool×AH)} (hrec_value_book_all:∀(m:Nat) (H:AH) (a0:Option Addr) (a1_0 a1_1:Int) (a1_2:ByteArray) (a1_3:Sl3) (a2:Int) (r:(Sl3×Bool×AH)),rec_value_book_all m H a0 a1_0 a1_1 a1_2 a1_3 a2=some r→CallS Tryz.prog (NE.plain 99) m 124 #[(vP a0),(vA #[(vI .i64 a1_0),(vI .i64 a1_1),(vS a1_2),(Sl3.v a1_3)]),(vI .i64 a2)] H (j4 r) (G4 H r)) {m:Nat} {H:AH} {a0:Option Addr} {a1_0 a1_1:Int} {a1_2:ByteArray} {a1_3 a2:Sl3} {a3_0:Int} {a3_1 a3_2:Bool} {a3_3:Sl3} {a3_4:Int} {a3_5:Sl3} {a3_6:ByteArray} {a3_7 a3_8 a3_9:Int} {a3_10:ByteArray} {a3_11 a3_12:Sl3} {a3_13 a3_14:Sl3} {r:(Int×Bool×Bool×Sl3×Int×Sl3×ByteArray×Int×Int×Int×ByteArray×Sl3×Sl3×Sl3×Sl3×Bool×AH)} (h:S6 L rec_value_book_all m H a0 a1_0 a1_1 a1_2 a1_3 a2 a3_0 a3_1 a3_2 a3_3 a3_4 a3_5 a3_6 a3_7 a3_8 a3_9 a3_10 a3_11 a3_12 a3_13 a3_14=some r) :
  CallS Tryz.prog (NE.plain 99) m 97 #[(vP a0),(vA #[(vI .i64 a1_0),(vI .i64 a1_1),(vS a1_2),(Sl3.v a1_3)]),(Sl3.v a2),(vA #[(vI .i64 a3_0),(vB a3_1),(vB a3_2),(Sl3.v a3_3),(vI .i64 a3_4),(Sl3.v a3_5),(vS a3_6),(vI .i64 a3_7),(vI .i64 a3_8),(vI .i64 a3_9),(vS a3_10),(Sl3.v a3_11),(Sl3.v a3_12),(Sl3.v a3_13),(Sl3.v a3_14)])] H (C4 r) (M4 H r):=by
 refine CallS.mk (args:=[(vP a0),(vA #[(vI .i64 a1_0),(vI .i64 a1_1),(vS a1_2),(Sl3.v a1_3)]),(Sl3.v a2),(vA #[(vI .i64 a3_0),(vB a3_1),(vB a3_2),(Sl3.v a3_3),(vI .i64 a3_4),(Sl3.v a3_5),(vS a3_6),(vI .i64 a3_7),(vI .i64 a3_8),(vI .i64 a3_9),(vS a3_10),(Sl3.v a3_11),(Sl3.v a3_12),(Sl3.v a3_13),(Sl3.v a3_14)])]) Tryz.func97 (B:=B97) (by kernel_rfl) (fun E _=>?_);unfold S6 at h;refine t0 (A0 (O0 4 [kB 9 false,kL 8 2 0,kL 7 1 0,kL 5 0 0] ([some (32,[(vI .i64 a1_0),(vI .i64 a1_1),(vS a1_2),(Sl3.v a1_3)]),some (36,[(vI .i64 a3_0),(vB a3_1),(vB a3_2),(Sl3.v a3_3),(vI .i64 a3_4),(Sl3.v a3_5),(vS a3_6),(vI .i64 a3_7),(vI .i64 a3_8),(vI .i64 a3_9),(vS a3_10),(Sl3.v a3_11),(Sl3.v a3_12),(Sl3.v a3_13),(Sl3.v a3_14)]),some (36,[(vI .i64 0),(vB false),(vB false),(Sl3.v Sl3.nil),(vI .i64 0),(Sl3.v Sl3.nil),(vS (⟨#[]⟩:ByteArray)),(vI .i64 0),(vI .i64 0),(vI .i64 0),(vS (⟨#[]⟩:ByteArray)),(Sl3.v Sl3.nil),(Sl3.v Sl3.nil),(Sl3.v Sl3.nil),(Sl3.v Sl3.nil)])]) (u0 (m0 (t0 (A0 (O0 3 [kL 10 3 0,kA 18 #[(vI .i64 a3_0),(vB a3_1),(vB a3_2),(Sl3.v a3_3),(vI .i64 a3_4),(Sl3.v a3_5),(vS a3_6),(vI .i64 a3_7),(vI .i64 a3_8),(vI .i64 a3_9),(vS a3_10),(Sl3.v a3_11),(Sl3.v a3_12),(Sl3.v a3_13),(Sl3.v a3_14)]] ([some (32,[(vI .i64 a1_0),(vI .i64 a1_1),(vS a1_2),(Sl3.v a1_3)]),some (36,[(vI .i64 a3_0),(vB a3_1),(vB a3_2),(Sl3.v a3_3),(vI .i64 a3_4),(Sl3.v a3_5),(vS a3_6),(vI .i64 a3_7),(vI .i64 a3_8),(vI .i64 a3_9),(vS a3_10),(Sl3.v a3_11),(Sl3.v a3_12),(Sl3.v a3_13),(Sl3.v a3_14)]),some (36,[(vI .i64 0),(vB false),(vB false),(Sl3.v Sl3.nil),(vI .i64 0),(Sl3.v Sl3.nil),(vS (⟨#[]⟩:ByteArray)),(vI .i64 0),(vI .i64 0),(vI .i64 0),(vS (⟨#[]⟩:ByteArray)),(Sl3.v Sl3.nil),(Sl3.v Sl3.nil),(Sl3.v Sl3.nil),(Sl3.v Sl3.nil)]),some (36,[(vI .i64 a3_0),(vB a3_1),(vB a3_2),(Sl3.v a3_3),(vI .i64 a3_4),(Sl3.v a3_5),(vS a3_6),(vI .i64 a3_7),(vI .i64 a3_8),(vI .i64 a3_9),(vS a3_10),(Sl3.v a3_11),(Sl3.v a3_12),(Sl3.v a3_13),(Sl3.v a3_14)])]) (u0 (m0 ?_)))))))));refine t0 (t0 ?_);refine C1 [0,1,2,3,4,5,6,7] [0,1,3,7,0,16,48,112,255,511,1023,1023,2047,8191] 14 (fun hcl=>?_);refine Q0 0 (some 20) (.loc 0 3) (Q0 1 (some 21) (.val (Sl3.v a1_3)) ?_);obtain ⟨p1,hx,h⟩:=bind_some h;refine Z0 2 (some 22) (vP (some p1)) (Abs.det_idx (s:=a1_3) (k:=.i64) (t:=30) (e:=32) (x:=.tmp 21) (y:=.const (vI .i64 0)) (by kernel_rfl) (by kernel_rfl) (by kernel_rfl) (by kernel_rfl) (by kernel_rfl) hx) ?_;obtain ⟨x2_0,hx0,h⟩:=bind_some h;obtain ⟨x2_1,hx1,h⟩:=bind_some h;obtain ⟨x2_2,hx2,h⟩:=bind_some h;obtain ⟨x2_3,hx3,h⟩:=bind_some h;refine Z0 3 (some 23) (vA #[(vI .i64 x2_0),(vI .i64 x2_1),(vS x2_2),(Sl3.v x2_3)]) (Abs.det_loadA (t:=32) (x:=.tmp 22) (a:=p1) (k:=4) (by kernel_rfl) (by kernel_rfl) (by kernel_rfl) (by kernel_rfl) (G1 (I1 hx0 N1) (G1 (I1 hx1 N1) (G1 (I1 hx2 X1) (G1 (I1 hx3 M1) T2))))) (S0 4 (some 24) (vP a0) ?_);obtain ⟨q3,hx,hq3⟩:=bind_some h;subst hx;have h:=hq3;refine S0 5 (some 25) (vP (some q3)) (S0 6 (some 26) (vP (some (Addr.add q3 0))) ?_);obtain ⟨x4_0,hx0,h⟩:=bind_some h;obtain ⟨x4_1,hx1,h⟩:=bind_some h;obtain ⟨x4_2,hx2,h⟩:=bind_some h;refine Z0 7 (some 27) (vA #[(Sl3.v x4_0),(Sl3.v x4_1),(Sl3.v x4_2)]) (Abs.det_loadA (t:=62) (x:=.tmp 26) (a:=(Addr.add q3 0)) (k:=3) (by kernel_rfl) (by kernel_rfl) (by kernel_rfl) (by kernel_rfl) (G1 (I1 hx0 M1) (G1 (I1 hx1 M1) (G1 (I1 hx2 M1) T2)))) ?_;obtain ⟨⟨x5,x6,H7⟩,hx,h⟩:=bind_some h;try dsimp only at h
 refine DA.on 8 (J0 8 (some 28) (v:=(Value.tuple #[(vI .i64 x5),(vB x6)])) 122 #[(vA #[(vI .i64 x2_0),(vI .i64 x2_1),(vS x2_2),(Sl3.v x2_3)]),(vA #[(Sl3.v x4_0),(Sl3.v x4_1),(Sl3.v x4_2)]),(vI .i64 131072)] (z2o hx) (N0 9 (some 19) (Value.tuple #[(vI .i64 x5),(vB x6)]) (N0 10 (some 29) (vI .i64 x5) (N0 11 (some 30) (vB x6) (N0 12 (some 11) (vI .i64 x5) (N0 13 (some 12) (vB x6) (K0 (m0 (t0 ?_)))))))));refine A0 (g0 1 [kB 31 x6] (u0 (m0 ?_)));rcases J1 h with ⟨hp,h⟩ | ⟨hp,h⟩
 ·refine B0 31 true hp (E0 (A0 (g0 3 [kI 34 x5,kA 33 #[(vI .i64 a3_0),(vB a3_1),(vB a3_2),(Sl3.v a3_3),(vI .i64 a3_4),(Sl3.v a3_5),(vS a3_6),(vI .i64 a3_7),(vI .i64 a3_8),(vI .i64 a3_9),(vS a3_10),(Sl3.v a3_11),(Sl3.v a3_12),(Sl3.v a3_13),(Sl3.v a3_14)],kS 32 a2] ?_)));obtain ⟨⟨x8_0,x8_1,x8_2,x8_3,x8_4,x8_5,x8_6,x8_7,x8_8,x8_9,x8_10,x8_11,x8_12,x8_13,x8_14,H9⟩,hx,h⟩:=bind_some h;try dsimp only at h
  refine RS.cl (some 35) (v:=(vA #[(vI .i64 x8_0),(vB x8_1),(vB x8_2),(Sl3.v x8_3),(vI .i64 x8_4),(Sl3.v x8_5),(vS x8_6),(vI .i64 x8_7),(vI .i64 x8_8),(vI .i64 x8_9),(vS x8_10),(Sl3.v x8_11),(Sl3.v x8_12),(Sl3.v x8_13),(Sl3.v x8_14)])) 123 _ (z26 hx) (O0 1 [] ([some (32,[(vI .i64 a1_0),(vI .i64 a1_1),(vS a1_2),(Sl3.v a1_3)]),some (36,[(vI .i64 a3_0),(vB a3_1),(vB a3_2),(Sl3.v a3_3),(vI .i64 a3_4),(Sl3.v a3_5),(vS a3_6),(vI .i64 a3_7),(vI .i64 a3_8),(vI .i64 a3_9),(vS a3_10),(Sl3.v a3_11),(Sl3.v a3_12),(Sl3.v a3_13),(Sl3.v a3_14)]),some (36,[(vI .i64 0),(vB false),(vB false),(Sl3.v Sl3.nil),(vI .i64 0),(Sl3.v Sl3.nil),(vS (⟨#[]⟩:ByteArray)),(vI .i64 0),(vI .i64 0),(vI .i64 0),(vS (⟨#[]⟩:ByteArray)),(Sl3.v Sl3.nil),(Sl3.v Sl3.nil),(Sl3.v Sl3.nil),(Sl3.v Sl3.nil)]),some (36,[(vI .i64 x8_0),(vB x8_1),(vB x8_2),(Sl3.v x8_3),(vI .i64 x8_4),(Sl3.v x8_5),(vS x8_6),(vI .i64 x8_7),(vI .i64 x8_8),(vI .i64 x8_9),(vS x8_10),(Sl3.v x8_11),(Sl3.v x8_12),(Sl3.v x8_13),(Sl3.v x8_14)])]) (u0 (m0 (t0 (t0 (A0 (g0 2 [kA 37 #[(vI .i64 a3_0),(vB a3_1),(vB a3_2),(Sl3.v a3_3),(vI .i64 a3_4),(Sl3.v a3_5),(vS a3_6),(vI .i64 a3_7),(vI .i64 a3_8),(vI .i64 a3_9),(vS a3_10),(Sl3.v a3_11),(Sl3.v a3_12),(Sl3.v a3_13),(Sl3.v a3_14)],kA 36 #[(vI .i64 x8_0),(vB x8_1),(vB x8_2),(Sl3.v x8_3),(vI .i64 x8_4),(Sl3.v x8_5),(vS x8_6),(vI .i64 x8_7),(vI .i64 x8_8),(vI .i64 x8_9),(vS x8_10),(Sl3.v x8_11),(Sl3.v x8_12),(Sl3.v x8_13),(Sl3.v x8_14)]] ?_)))))));obtain ⟨⟨x10,H11⟩,hx,h⟩:=bind_some h;try dsimp only at h
  refine RS.cl (some 38) (v:=(vI .i64 x10)) 4 _ (T1 hx) (g0 1 [kB 39 (!decide (x10=0))] (u0 (m0 ?_)));rcases J1 h with ⟨hp,h⟩ | ⟨hp,h⟩
  ·refine B0 39 false (C2 hp) (D0 ?_);cases h
  ·refine B0 39 true (A2 hp) (E0 (t0 (A0 (g0 3 [kS 43 a1_3,kL 42 0 3,kP 41 q3] ?_))));obtain ⟨p12,hx,h⟩:=bind_some h;refine RS.ix 44 30 32 (.tmp 43) (.const (vI .i64 0)) hx ?_;obtain ⟨x13_0,hx0,h⟩:=bind_some h;obtain ⟨x13_1,hx1,h⟩:=bind_some h;obtain ⟨x13_2,hx2,h⟩:=bind_some h;obtain ⟨x13_3,hx3,h⟩:=bind_some h;refine E1 45 32 (.tmp 44) 4 (G1 (I1 hx0 N1) (G1 (I1 hx1 N1) (G1 (I1 hx2 X1) (G1 (I1 hx3 M1) T2)))) ?_;obtain ⟨⟨x14,x15,H16⟩,hx,h⟩:=bind_some h;try dsimp only at h
   refine RS.cl (some 46) (v:=(Value.tuple #[(Sl3.v x14),(vB x15)])) 124 _ (hrec_value_book_all _ _ _ _ _ _ _ _ _ hx) (g0 5 [kB 14 x15,kS 13 x14,kB 48 x15,kS 47 x14,(40,.val (Value.tuple #[(Sl3.v x14),(vB x15)]))] (u0 (m0 (t0 (t0 (A0 (g0 2 [kB 50 (!x15),kB 49 x15] (u0 (m0 ?_)))))))));rcases J1 h with ⟨hp,h⟩ | ⟨hp,h⟩
   ·refine B0 50 false (nb_not hp) (D0 (M0 (m0 (A0 (g0 3 [kA 54 #[(vI .i64 a3_0),(vB a3_1),(vB a3_2),(Sl3.v a3_3),(vI .i64 a3_4),(Sl3.v a3_5),(vS a3_6),(vI .i64 a3_7),(vI .i64 a3_8),(vI .i64 a3_9),(vS a3_10),(Sl3.v a3_11),(Sl3.v a3_12),(Sl3.v a3_13),(Sl3.v a3_14)],kS 53 x14,kS 52 a2] ?_)))));obtain ⟨⟨x17,H18⟩,hx,h⟩:=bind_some h;try dsimp only at h
    refine RS.cl (some 55) (v:=(Sl3.v x17)) 125 _ (z5f hx) (g0 1 [kS 2 x17] (u0 (m0 (t0 (A0 (g0 2 [kA 57 #[(vI .i64 x8_0),(vB x8_1),(vB x8_2),(Sl3.v x8_3),(vI .i64 x8_4),(Sl3.v x8_5),(vS x8_6),(vI .i64 x8_7),(vI .i64 x8_8),(vI .i64 x8_9),(vS x8_10),(Sl3.v x8_11),(Sl3.v x8_12),(Sl3.v x8_13),(Sl3.v x8_14)],kA 56 #[(vI .i64 a1_0),(vI .i64 a1_1),(vS a1_2),(Sl3.v a1_3)]] ?_))))));obtain ⟨⟨s19,H20⟩,hx,h⟩:=bind_some h;try dsimp only at h
    refine T0 (H':=H20) (some 58) (Sl3.v s19) (Abs.run_newR (by kernel_rfl) (by kernel_rfl) hx) (O0 3 [kL 15 4 0,kA 59 #[(vI .i64 5),(vB false),(vB false),(Sl3.v Sl3.nil),(vI .i64 0),(Sl3.v Sl3.nil),(vS (⟨#[]⟩:ByteArray)),(vI .i64 0),(vI .i64 a1_0),(vI .i64 a1_1),(vS a1_2),(Sl3.v a1_3),(Sl3.v Sl3.nil),(Sl3.v Sl3.nil),(Sl3.v s19)]] ([some (32,[(vI .i64 a1_0),(vI .i64 a1_1),(vS a1_2),(Sl3.v a1_3)]),some (36,[(vI .i64 a3_0),(vB a3_1),(vB a3_2),(Sl3.v a3_3),(vI .i64 a3_4),(Sl3.v a3_5),(vS a3_6),(vI .i64 a3_7),(vI .i64 a3_8),(vI .i64 a3_9),(vS a3_10),(Sl3.v a3_11),(Sl3.v a3_12),(Sl3.v a3_13),(Sl3.v a3_14)]),some (36,[(vI .i64 0),(vB false),(vB false),(Sl3.v Sl3.nil),(vI .i64 0),(Sl3.v Sl3.nil),(vS (⟨#[]⟩:ByteArray)),(vI .i64 0),(vI .i64 0),(vI .i64 0),(vS (⟨#[]⟩:ByteArray)),(Sl3.v Sl3.nil),(Sl3.v Sl3.nil),(Sl3.v Sl3.nil),(Sl3.v Sl3.nil)]),some (36,[(vI .i64 x8_0),(vB x8_1),(vB x8_2),(Sl3.v x8_3),(vI .i64 x8_4),(Sl3.v x8_5),(vS x8_6),(vI .i64 x8_7),(vI .i64 x8_8),(vI .i64 x8_9),(vS x8_10),(Sl3.v x8_11),(Sl3.v x8_12),(Sl3.v x8_13),(Sl3.v x8_14)]),some (36,[(vI .i64 5),(vB false),(vB false),(Sl3.v Sl3.nil),(vI .i64 0),(Sl3.v Sl3.nil),(vS (⟨#[]⟩:ByteArray)),(vI .i64 0),(vI .i64 a1_0),(vI .i64 a1_1),(vS a1_2),(Sl3.v a1_3),(Sl3.v Sl3.nil),(Sl3.v Sl3.nil),(Sl3.v s19)])]) (u0 (m0 (t0 (t0 (A0 (g0 3 [kI 62 0,kI 61 (x17.n:Int),kS 60 x17] (u0 (m0 ?_)))))))));refine P0 0 ?_;obtain ⟨o,hl,h⟩:=bind_some h;rcases o with ⟨H62,v62_63,w4_64,w4_65,w4_66,w4_67,w4_68,w4_69,w4_70,w4_71,w4_72,w4_73,w4_74,w4_75,w4_76,w4_77,w4_78⟩ | r
    ·try dsimp only at h
     refine Y0 (m9 (L:=L) (E:=E) (m:=m) (H:=H)) (L.ok hl) 5 ?_;clear hl;refine fun a w hs=>bkE ((m0 ?_ a w hs));refine t0 ?_;cases h
    ·try dsimp only at h
     refine X0 (m9 (L:=L) (E:=E) (m:=m) (H:=H)) (L.ok hl) 5 ?_;cases h;exact fun a w hq=>bkR (sqR (rtR hq))
   ·refine B0 50 true (Q4 hp) (E0 ?_);cases h
 ·refine B0 31 false (b_not hp) (D0 ?_);cases h
theorem Y9 {L:LC}:∀n,(∀(m:Nat) (H:AH) (a0:Option Addr) (a1_0 a1_1:Int) (a1_2:ByteArray) (a1_3:Sl3) (a2:Int) (r:(Sl3×Bool×AH)),((l6 L n).1) m H a0 a1_0 a1_1 a1_2 a1_3 a2=some r→CallS Tryz.prog (NE.plain 99) m 124 #[(vP a0),(vA #[(vI .i64 a1_0),(vI .i64 a1_1),(vS a1_2),(Sl3.v a1_3)]),(vI .i64 a2)] H (j4 r) (G4 H r))∧(∀(m:Nat) (H:AH) (a0:Option Addr) (a1_0 a1_1:Int) (a1_2:ByteArray) (a1_3 a2:Sl3) (a3_0:Int) (a3_1 a3_2:Bool) (a3_3:Sl3) (a3_4:Int) (a3_5:Sl3) (a3_6:ByteArray) (a3_7 a3_8 a3_9:Int) (a3_10:ByteArray) (a3_11 a3_12:Sl3) (a3_13 a3_14:Sl3) (r:(Int×Bool×Bool×Sl3×Int×Sl3×ByteArray×Int×Int×Int×ByteArray×Sl3×Sl3×Sl3×Sl3×Bool×AH)),((l6 L n).2) m H a0 a1_0 a1_1 a1_2 a1_3 a2 a3_0 a3_1 a3_2 a3_3 a3_4 a3_5 a3_6 a3_7 a3_8 a3_9 a3_10 a3_11 a3_12 a3_13 a3_14=some r→CallS Tryz.prog (NE.plain 99) m 97 #[(vP a0),(vA #[(vI .i64 a1_0),(vI .i64 a1_1),(vS a1_2),(Sl3.v a1_3)]),(Sl3.v a2),(vA #[(vI .i64 a3_0),(vB a3_1),(vB a3_2),(Sl3.v a3_3),(vI .i64 a3_4),(Sl3.v a3_5),(vS a3_6),(vI .i64 a3_7),(vI .i64 a3_8),(vI .i64 a3_9),(vS a3_10),(Sl3.v a3_11),(Sl3.v a3_12),(Sl3.v a3_13),(Sl3.v a3_14)])] H (C4 r) (M4 H r)):=by
 intro n;induction n with
 | zero=>exact ⟨(fun _ _ _ _ _ _ _ _ _ h=>(Option.some_ne_none _ h.symm).elim),(fun _ _ _ _ _ _ _ _ _ _ _ _ _ _ _ _ _ _ _ _ _ _ _ _ h=>(Option.some_ne_none _ h.symm).elim)⟩
 | succ n ih=>exact ⟨(fun _ _ _ _ _ _ _ _ _ h=>z5o (L:=L)  h),(fun _ _ _ _ _ _ _ _ _ _ _ _ _ _ _ _ _ _ _ _ _ _ _ _ h=>z4q (L:=L) ih.1 h)⟩
theorem za6 {L:LC} {m:Nat} {H:AH} {a0:Option Addr} {a1_0 a1_1:Int} {a1_2:ByteArray} {a1_3:Sl3} {a2:Int} {r:(Sl3×Bool×AH)} (h:z62 L m H a0 a1_0 a1_1 a1_2 a1_3 a2=some r) :
  CallS Tryz.prog (NE.plain 99) m 124 #[(vP a0),(vA #[(vI .i64 a1_0),(vI .i64 a1_1),(vS a1_2),(Sl3.v a1_3)]),(vI .i64 a2)] H (j4 r) (G4 H r) :=
 ((Y9 _).1) _ _ _ _ _ _ _ _ _ h
theorem z8h {L:LC} {m:Nat} {H:AH} {a0:Option Addr} {a1_0 a1_1:Int} {a1_2:ByteArray} {a1_3 a2:Sl3} {a3_0:Int} {a3_1 a3_2:Bool} {a3_3:Sl3} {a3_4:Int} {a3_5:Sl3} {a3_6:ByteArray} {a3_7 a3_8 a3_9:Int} {a3_10:ByteArray} {a3_11 a3_12:Sl3} {a3_13 a3_14:Sl3} {r:(Int×Bool×Bool×Sl3×Int×Sl3×ByteArray×Int×Int×Int×ByteArray×Sl3×Sl3×Sl3×Sl3×Bool×AH)} (h:z4j L m H a0 a1_0 a1_1 a1_2 a1_3 a2 a3_0 a3_1 a3_2 a3_3 a3_4 a3_5 a3_6 a3_7 a3_8 a3_9 a3_10 a3_11 a3_12 a3_13 a3_14=some r) :
  CallS Tryz.prog (NE.plain 99) m 97 #[(vP a0),(vA #[(vI .i64 a1_0),(vI .i64 a1_1),(vS a1_2),(Sl3.v a1_3)]),(Sl3.v a2),(vA #[(vI .i64 a3_0),(vB a3_1),(vB a3_2),(Sl3.v a3_3),(vI .i64 a3_4),(Sl3.v a3_5),(vS a3_6),(vI .i64 a3_7),(vI .i64 a3_8),(vI .i64 a3_9),(vS a3_10),(Sl3.v a3_11),(Sl3.v a3_12),(Sl3.v a3_13),(Sl3.v a3_14)])] H (C4 r) (M4 H r) :=
 ((Y9 _).2) _ _ _ _ _ _ _ _ _ _ _ _ _ _ _ _ _ _ _ _ _ _ _ _ h
noncomputable def B38:Code:=(Tryz.f38.body).getD .skip
def z84:(Int×Bool×Bool×Sl3×Int×Sl3×ByteArray×Int×Int×Int×ByteArray×Sl3×Sl3×Sl3×Sl3×Bool×AH)→Value
 | (r0,r1,r2,r3,r4,r5,r6,r7,r8,r9,r10,r11,r12,r13,r14,r15,_)=>(Value.tuple #[(vA #[(vI .i64 r0),(vB r1),(vB r2),(Sl3.v r3),(vI .i64 r4),(Sl3.v r5),(vS r6),(vI .i64 r7),(vI .i64 r8),(vI .i64 r9),(vS r10),(Sl3.v r11),(Sl3.v r12),(Sl3.v r13),(Sl3.v r14)]),(vB r15)])
def z8i (_:AH):(Int×Bool×Bool×Sl3×Int×Sl3×ByteArray×Int×Int×Int×ByteArray×Sl3×Sl3×Sl3×Sl3×Bool×AH)→AH:=fun r=>r.2.2.2.2.2.2.2.2.2.2.2.2.2.2.2.2
noncomputable def v7 (L:LC):Nat→FuncId→Array Value→AH→Option (Value×AH) :=
 (orO (orF 4 (dcC (dcG (dcC (dcI .i64) (dcC dcB (dcC dcB (dcC dcSl (dcC (dcI .i64) (dcC dcSl (dcC dcS (dcC (dcI .i64) (dcC (dcI .i64) (dcC (dcI .i64) (dcC dcS (dcC dcSl (dcC dcSl (dcC dcSl (dcC dcSl dcN)))))))))))))))) (dcC (dcG (dcC (dcI .i64) (dcC dcB (dcC dcB (dcC dcSl (dcC (dcI .i64) (dcC dcSl (dcC dcS (dcC (dcI .i64) (dcC (dcI .i64) (dcC (dcI .i64) (dcC dcS (dcC dcSl (dcC dcSl (dcC dcSl (dcC dcSl dcN)))))))))))))))) dcN)) fun m H ((a0_0,(a0_1,(a0_2,(a0_3,(a0_4,(a0_5,(a0_6,(a0_7,(a0_8,(a0_9,(a0_10,(a0_11,(a0_12,(a0_13,(a0_14,_))))))))))))))),((a1_0,(a1_1,(a1_2,(a1_3,(a1_4,(a1_5,(a1_6,(a1_7,(a1_8,(a1_9,(a1_10,(a1_11,(a1_12,(a1_13,(a1_14,_))))))))))))))),_))=>(Y1 L m H a0_0 a0_1 a0_2 a0_3 a0_4 a0_5 a0_6 a0_7 a0_8 a0_9 a0_10 a0_11 a0_12 a0_13 a0_14 a1_0 a1_1 a1_2 a1_3 a1_4 a1_5 a1_6 a1_7 a1_8 a1_9 a1_10 a1_11 a1_12 a1_13 a1_14).map fun r=>(A3 r,G3 H r))
  (orO (orF 39 (dcC (dcG (dcC (dcI .i64) (dcC dcB (dcC dcB (dcC dcSl (dcC (dcI .i64) (dcC dcSl (dcC dcS (dcC (dcI .i64) (dcC (dcI .i64) (dcC (dcI .i64) (dcC dcS (dcC dcSl (dcC dcSl (dcC dcSl (dcC dcSl dcN)))))))))))))))) dcN) fun _ H ((a0_0,(a0_1,(a0_2,(a0_3,(a0_4,(a0_5,(a0_6,(a0_7,(a0_8,(a0_9,(a0_10,(a0_11,(a0_12,(a0_13,(a0_14,_))))))))))))))),_)=>(z6 L H a0_0 a0_1 a0_2 a0_3 a0_4 a0_5 a0_6 a0_7 a0_8 a0_9 a0_10 a0_11 a0_12 a0_13 a0_14).map fun r=>(K8 r,v9 H r))
  (orO (orF 61 (dcC (dcG (dcC (dcI .i64) (dcC dcB (dcC dcB (dcC dcSl (dcC (dcI .i64) (dcC dcSl (dcC dcS (dcC (dcI .i64) (dcC (dcI .i64) (dcC (dcI .i64) (dcC dcS (dcC dcSl (dcC dcSl (dcC dcSl (dcC dcSl dcN)))))))))))))))) dcN) fun _ H ((a0_0,(a0_1,(a0_2,(a0_3,(a0_4,(a0_5,(a0_6,(a0_7,(a0_8,(a0_9,(a0_10,(a0_11,(a0_12,(a0_13,(a0_14,_))))))))))))))),_)=>(z1y L H a0_0 a0_1 a0_2 a0_3 a0_4 a0_5 a0_6 a0_7 a0_8 a0_9 a0_10 a0_11 a0_12 a0_13 a0_14).map fun r=>(n3 r,D3 H r))
  (orO (orF 63 (dcC (dcG (dcC dcB (dcC dcSl dcN))) dcN) fun m H ((a0_0,(a0_1,_)),_)=>(z3h L m H a0_0 a0_1).map fun r=>(z1t r,z2i H r))
  (orO (orF 97 (dcC dcP (dcC (dcG (dcC (dcI .i64) (dcC (dcI .i64) (dcC dcS (dcC dcSl dcN))))) (dcC dcSl (dcC (dcG (dcC (dcI .i64) (dcC dcB (dcC dcB (dcC dcSl (dcC (dcI .i64) (dcC dcSl (dcC dcS (dcC (dcI .i64) (dcC (dcI .i64) (dcC (dcI .i64) (dcC dcS (dcC dcSl (dcC dcSl (dcC dcSl (dcC dcSl dcN)))))))))))))))) dcN)))) fun m H (a0,((a1_0,(a1_1,(a1_2,(a1_3,_)))),(a2,((a3_0,(a3_1,(a3_2,(a3_3,(a3_4,(a3_5,(a3_6,(a3_7,(a3_8,(a3_9,(a3_10,(a3_11,(a3_12,(a3_13,(a3_14,_))))))))))))))),_))))=>(z4j L m H a0 a1_0 a1_1 a1_2 a1_3 a2 a3_0 a3_1 a3_2 a3_3 a3_4 a3_5 a3_6 a3_7 a3_8 a3_9 a3_10 a3_11 a3_12 a3_13 a3_14).map fun r=>(C4 r,M4 H r))
  (orO (orF 122 (dcC (dcG (dcC (dcI .i64) (dcC (dcI .i64) (dcC dcS (dcC dcSl dcN))))) (dcC (dcG (dcC dcSl (dcC dcSl (dcC dcSl dcN)))) (dcC (dcI .i64) dcN))) fun m H ((a0_0,(a0_1,(a0_2,(a0_3,_)))),((a1_0,(a1_1,(a1_2,_))),(a2,_)))=>(zm L m H a0_0 a0_1 a0_2 a0_3 a1_0 a1_1 a1_2 a2).map fun r=>(z60 r,z7k H r))
  (orO (orF 123 (dcC dcSl (dcC (dcG (dcC (dcI .i64) (dcC dcB (dcC dcB (dcC dcSl (dcC (dcI .i64) (dcC dcSl (dcC dcS (dcC (dcI .i64) (dcC (dcI .i64) (dcC (dcI .i64) (dcC dcS (dcC dcSl (dcC dcSl (dcC dcSl (dcC dcSl dcN)))))))))))))))) (dcC (dcI .i64) dcN))) fun m H (a0,((a1_0,(a1_1,(a1_2,(a1_3,(a1_4,(a1_5,(a1_6,(a1_7,(a1_8,(a1_9,(a1_10,(a1_11,(a1_12,(a1_13,(a1_14,_))))))))))))))),(a2,_)))=>(Q7 L m H a0 a1_0 a1_1 a1_2 a1_3 a1_4 a1_5 a1_6 a1_7 a1_8 a1_9 a1_10 a1_11 a1_12 a1_13 a1_14 a2).map fun r=>(O4 r,U4 H r))
  (orO (orF 124 (dcC dcP (dcC (dcG (dcC (dcI .i64) (dcC (dcI .i64) (dcC dcS (dcC dcSl dcN))))) (dcC (dcI .i64) dcN))) fun m H (a0,((a1_0,(a1_1,(a1_2,(a1_3,_)))),(a2,_)))=>(z62 L m H a0 a1_0 a1_1 a1_2 a1_3 a2).map fun r=>(j4 r,G4 H r))
  (orO (orF 125 (dcC dcSl (dcC dcSl (dcC (dcG (dcC (dcI .i64) (dcC dcB (dcC dcB (dcC dcSl (dcC (dcI .i64) (dcC dcSl (dcC dcS (dcC (dcI .i64) (dcC (dcI .i64) (dcC (dcI .i64) (dcC dcS (dcC dcSl (dcC dcSl (dcC dcSl (dcC dcSl dcN)))))))))))))))) dcN))) fun m H (a0,(a1,((a2_0,(a2_1,(a2_2,(a2_3,(a2_4,(a2_5,(a2_6,(a2_7,(a2_8,(a2_9,(a2_10,(a2_11,(a2_12,(a2_13,(a2_14,_))))))))))))))),_)))=>(zg L m H a0 a1 a2_0 a2_1 a2_2 a2_3 a2_4 a2_5 a2_6 a2_7 a2_8 a2_9 a2_10 a2_11 a2_12 a2_13 a2_14).map fun r=>(K9 r,z9 H r))
  orN)))))))))
noncomputable def z53 (L:LC) (m:Nat) (H:AH) (a0:Option Addr) (a1_0:Int) (a1_1 a1_2:Bool) (a1_3:Sl3) (a1_4:Int) (a1_5:Sl3) (a1_6:ByteArray) (a1_7 a1_8 a1_9:Int) (a1_10:ByteArray) (a1_11 a1_12:Sl3) (a1_13 a1_14:Sl3) (a2_0 a2_1:Int) (a2_2:ByteArray) (a2_3:Sl3):Option (Int×Bool×Bool×Sl3×Int×Sl3×ByteArray×Int×Int×Int×ByteArray×Sl3×Sl3×Sl3×Sl3×Bool×AH) :=
 byRun Tryz.prog 99 (v7 L) m 38 #[(vP a0),(vA #[(vI .i64 a1_0),(vB a1_1),(vB a1_2),(Sl3.v a1_3),(vI .i64 a1_4),(Sl3.v a1_5),(vS a1_6),(vI .i64 a1_7),(vI .i64 a1_8),(vI .i64 a1_9),(vS a1_10),(Sl3.v a1_11),(Sl3.v a1_12),(Sl3.v a1_13),(Sl3.v a1_14)]),(vA #[(vI .i64 a2_0),(vI .i64 a2_1),(vS a2_2),(Sl3.v a2_3)])] H (dcT (dcC (dcG (dcC (dcI .i64) (dcC dcB (dcC dcB (dcC dcSl (dcC (dcI .i64) (dcC dcSl (dcC dcS (dcC (dcI .i64) (dcC (dcI .i64) (dcC (dcI .i64) (dcC dcS (dcC dcSl (dcC dcSl (dcC dcSl (dcC dcSl dcN)))))))))))))))) (dcC dcB dcN))) fun ((r_0_0,(r_0_1,(r_0_2,(r_0_3,(r_0_4,(r_0_5,(r_0_6,(r_0_7,(r_0_8,(r_0_9,(r_0_10,(r_0_11,(r_0_12,(r_0_13,(r_0_14,_))))))))))))))),(r_1,_)) H2=>(r_0_0,r_0_1,r_0_2,r_0_3,r_0_4,r_0_5,r_0_6,r_0_7,r_0_8,r_0_9,r_0_10,r_0_11,r_0_12,r_0_13,r_0_14,r_1,H2)
theorem z5q {L:LC}:OrOK Tryz.prog (NE.plain 99) (v7 L):=by
 unfold v7;refine orO_ok (orF_ok fun m H ⟨⟨a0_0,⟨a0_1,⟨a0_2,⟨a0_3,⟨a0_4,⟨a0_5,⟨a0_6,⟨a0_7,⟨a0_8,⟨a0_9,⟨a0_10,⟨a0_11,⟨a0_12,⟨a0_13,⟨a0_14,_⟩⟩⟩⟩⟩⟩⟩⟩⟩⟩⟩⟩⟩⟩⟩,⟨⟨a1_0,⟨a1_1,⟨a1_2,⟨a1_3,⟨a1_4,⟨a1_5,⟨a1_6,⟨a1_7,⟨a1_8,⟨a1_9,⟨a1_10,⟨a1_11,⟨a1_12,⟨a1_13,⟨a1_14,_⟩⟩⟩⟩⟩⟩⟩⟩⟩⟩⟩⟩⟩⟩⟩,_⟩⟩ v H' h=>by
  obtain ⟨r,h1,rfl,rfl⟩:=j3 h;exact T1 h1) ?_
 refine orO_ok (orF_ok fun m H ⟨⟨a0_0,⟨a0_1,⟨a0_2,⟨a0_3,⟨a0_4,⟨a0_5,⟨a0_6,⟨a0_7,⟨a0_8,⟨a0_9,⟨a0_10,⟨a0_11,⟨a0_12,⟨a0_13,⟨a0_14,_⟩⟩⟩⟩⟩⟩⟩⟩⟩⟩⟩⟩⟩⟩⟩,_⟩ v H' h=>by
  obtain ⟨r,h1,rfl,rfl⟩:=j3 h;exact z2j h1) ?_
 refine orO_ok (orF_ok fun m H ⟨⟨a0_0,⟨a0_1,⟨a0_2,⟨a0_3,⟨a0_4,⟨a0_5,⟨a0_6,⟨a0_7,⟨a0_8,⟨a0_9,⟨a0_10,⟨a0_11,⟨a0_12,⟨a0_13,⟨a0_14,_⟩⟩⟩⟩⟩⟩⟩⟩⟩⟩⟩⟩⟩⟩⟩,_⟩ v H' h=>by
  obtain ⟨r,h1,rfl,rfl⟩:=j3 h;exact z1e h1) ?_
 refine orO_ok (orF_ok fun m H ⟨⟨a0_0,⟨a0_1,_⟩⟩,_⟩ v H' h=>by
  obtain ⟨r,h1,rfl,rfl⟩:=j3 h;exact z7q h1) ?_
 refine orO_ok (orF_ok fun m H ⟨a0,⟨⟨a1_0,⟨a1_1,⟨a1_2,⟨a1_3,_⟩⟩⟩⟩,⟨a2,⟨⟨a3_0,⟨a3_1,⟨a3_2,⟨a3_3,⟨a3_4,⟨a3_5,⟨a3_6,⟨a3_7,⟨a3_8,⟨a3_9,⟨a3_10,⟨a3_11,⟨a3_12,⟨a3_13,⟨a3_14,_⟩⟩⟩⟩⟩⟩⟩⟩⟩⟩⟩⟩⟩⟩⟩,_⟩⟩⟩⟩ v H' h=>by
  obtain ⟨r,h1,rfl,rfl⟩:=j3 h;exact z8h h1) ?_
 refine orO_ok (orF_ok fun m H ⟨⟨a0_0,⟨a0_1,⟨a0_2,⟨a0_3,_⟩⟩⟩⟩,⟨⟨a1_0,⟨a1_1,⟨a1_2,_⟩⟩⟩,⟨a2,_⟩⟩⟩ v H' h=>by
  obtain ⟨r,h1,rfl,rfl⟩:=j3 h;exact z2o h1) ?_
 refine orO_ok (orF_ok fun m H ⟨a0,⟨⟨a1_0,⟨a1_1,⟨a1_2,⟨a1_3,⟨a1_4,⟨a1_5,⟨a1_6,⟨a1_7,⟨a1_8,⟨a1_9,⟨a1_10,⟨a1_11,⟨a1_12,⟨a1_13,⟨a1_14,_⟩⟩⟩⟩⟩⟩⟩⟩⟩⟩⟩⟩⟩⟩⟩,⟨a2,_⟩⟩⟩ v H' h=>by
  obtain ⟨r,h1,rfl,rfl⟩:=j3 h;exact z26 h1) ?_
 refine orO_ok (orF_ok fun m H ⟨a0,⟨⟨a1_0,⟨a1_1,⟨a1_2,⟨a1_3,_⟩⟩⟩⟩,⟨a2,_⟩⟩⟩ v H' h=>by
  obtain ⟨r,h1,rfl,rfl⟩:=j3 h;exact za6 h1) ?_
 refine orO_ok (orF_ok fun m H ⟨a0,⟨a1,⟨⟨a2_0,⟨a2_1,⟨a2_2,⟨a2_3,⟨a2_4,⟨a2_5,⟨a2_6,⟨a2_7,⟨a2_8,⟨a2_9,⟨a2_10,⟨a2_11,⟨a2_12,⟨a2_13,⟨a2_14,_⟩⟩⟩⟩⟩⟩⟩⟩⟩⟩⟩⟩⟩⟩⟩,_⟩⟩⟩ v H' h=>by
  obtain ⟨r,h1,rfl,rfl⟩:=j3 h;exact z5f h1) ?_
 exact orN_ok
theorem z9c {L:LC} {m:Nat} {H:AH} {a0:Option Addr} {a1_0:Int} {a1_1 a1_2:Bool} {a1_3:Sl3} {a1_4:Int} {a1_5:Sl3} {a1_6:ByteArray} {a1_7 a1_8 a1_9:Int} {a1_10:ByteArray} {a1_11 a1_12:Sl3} {a1_13 a1_14:Sl3} {a2_0 a2_1:Int} {a2_2:ByteArray} {a2_3:Sl3} {r:(Int×Bool×Bool×Sl3×Int×Sl3×ByteArray×Int×Int×Int×ByteArray×Sl3×Sl3×Sl3×Sl3×Bool×AH)} (h:z53 L m H a0 a1_0 a1_1 a1_2 a1_3 a1_4 a1_5 a1_6 a1_7 a1_8 a1_9 a1_10 a1_11 a1_12 a1_13 a1_14 a2_0 a2_1 a2_2 a2_3=some r) :
  CallS Tryz.prog (NE.plain 99) m 38 #[(vP a0),(vA #[(vI .i64 a1_0),(vB a1_1),(vB a1_2),(Sl3.v a1_3),(vI .i64 a1_4),(Sl3.v a1_5),(vS a1_6),(vI .i64 a1_7),(vI .i64 a1_8),(vI .i64 a1_9),(vS a1_10),(Sl3.v a1_11),(Sl3.v a1_12),(Sl3.v a1_13),(Sl3.v a1_14)]),(vA #[(vI .i64 a2_0),(vI .i64 a2_1),(vS a2_2),(Sl3.v a2_3)])] H (z84 r) (z8i H r):=by
 obtain ⟨⟨⟨r_0_0,⟨r_0_1,⟨r_0_2,⟨r_0_3,⟨r_0_4,⟨r_0_5,⟨r_0_6,⟨r_0_7,⟨r_0_8,⟨r_0_9,⟨r_0_10,⟨r_0_11,⟨r_0_12,⟨r_0_13,⟨r_0_14,_⟩⟩⟩⟩⟩⟩⟩⟩⟩⟩⟩⟩⟩⟩⟩,⟨r_1,_⟩⟩,H2,rfl,hc⟩:=z4f z5q Tryz.func38 (show Tryz.f38.body=some B38 by kernel_rfl) h;exact hc
noncomputable def B27:Code:=(Tryz.f27.body).getD .skip
def z6m:(Int×Bool×Bool×Sl3×Int×Sl3×ByteArray×Int×Int×Int×ByteArray×Sl3×Sl3×Sl3×Sl3×Int×AH)→Value
 | (r0,r1,r2,r3,r4,r5,r6,r7,r8,r9,r10,r11,r12,r13,r14,r15,_)=>(Value.tuple #[(vA #[(vI .i64 r0),(vB r1),(vB r2),(Sl3.v r3),(vI .i64 r4),(Sl3.v r5),(vS r6),(vI .i64 r7),(vI .i64 r8),(vI .i64 r9),(vS r10),(Sl3.v r11),(Sl3.v r12),(Sl3.v r13),(Sl3.v r14)]),(vI .i64 r15)])
def z6v (_:AH):(Int×Bool×Bool×Sl3×Int×Sl3×ByteArray×Int×Int×Int×ByteArray×Sl3×Sl3×Sl3×Sl3×Int×AH)→AH:=fun r=>r.2.2.2.2.2.2.2.2.2.2.2.2.2.2.2.2
noncomputable def Z8 (L:LC) (m:Nat) (H:AH) (a0:Option Addr) (a1_0:Int) (a1_1 a1_2:Bool) (a1_3:Sl3) (a1_4:Int) (a1_5:Sl3) (a1_6:ByteArray) (a1_7 a1_8 a1_9:Int) (a1_10:ByteArray) (a1_11 a1_12:Sl3) (a1_13 a1_14:Sl3) (a2_0 a2_1:Int) (a2_2:ByteArray) (a2_3:Sl3):Option (Int×Bool×Bool×Sl3×Int×Sl3×ByteArray×Int×Int×Int×ByteArray×Sl3×Sl3×Sl3×Sl3×Int×AH) :=
 (G9 L m H a0 a1_0 a1_1 a1_2 a1_3 a1_4 a1_5 a1_6 a1_7 a1_8 a1_9 a1_10 a1_11 a1_12 a1_13 a1_14 a2_0 a2_1 a2_2 a2_3).bind fun (x1,H2) => if x1=0 then
  (z53 L m H2 a0 a1_0 a1_1 a1_2 a1_3 a1_4 a1_5 a1_6 a1_7 a1_8 a1_9 a1_10 a1_11 a1_12 a1_13 a1_14 a2_0 a2_1 a2_2 a2_3).bind fun (x3_0,x3_1,x3_2,x3_3,x3_4,x3_5,x3_6,x3_7,x3_8,x3_9,x3_10,x3_11,x3_12,x3_13,x3_14,x4,H5) => if x4=true then
   some (x3_0,x3_1,x3_2,x3_3,x3_4,x3_5,x3_6,x3_7,x3_8,x3_9,x3_10,x3_11,x3_12,x3_13,x3_14,0,H5)
  else
   none
 else
  none
theorem z79 {L:LC} {m:Nat} {H:AH} {a0:Option Addr} {a1_0:Int} {a1_1 a1_2:Bool} {a1_3:Sl3} {a1_4:Int} {a1_5:Sl3} {a1_6:ByteArray} {a1_7 a1_8 a1_9:Int} {a1_10:ByteArray} {a1_11 a1_12:Sl3} {a1_13 a1_14:Sl3} {a2_0 a2_1:Int} {a2_2:ByteArray} {a2_3:Sl3} {r:(Int×Bool×Bool×Sl3×Int×Sl3×ByteArray×Int×Int×Int×ByteArray×Sl3×Sl3×Sl3×Sl3×Int×AH)} (h:Z8 L m H a0 a1_0 a1_1 a1_2 a1_3 a1_4 a1_5 a1_6 a1_7 a1_8 a1_9 a1_10 a1_11 a1_12 a1_13 a1_14 a2_0 a2_1 a2_2 a2_3=some r) :
  CallS Tryz.prog (NE.plain 99) m 27 #[(vP a0),(vA #[(vI .i64 a1_0),(vB a1_1),(vB a1_2),(Sl3.v a1_3),(vI .i64 a1_4),(Sl3.v a1_5),(vS a1_6),(vI .i64 a1_7),(vI .i64 a1_8),(vI .i64 a1_9),(vS a1_10),(Sl3.v a1_11),(Sl3.v a1_12),(Sl3.v a1_13),(Sl3.v a1_14)]),(vA #[(vI .i64 a2_0),(vI .i64 a2_1),(vS a2_2),(Sl3.v a2_3)])] H (z6m r) (z6v H r):=by
 refine CallS.mk (args:=[(vP a0),(vA #[(vI .i64 a1_0),(vB a1_1),(vB a1_2),(Sl3.v a1_3),(vI .i64 a1_4),(Sl3.v a1_5),(vS a1_6),(vI .i64 a1_7),(vI .i64 a1_8),(vI .i64 a1_9),(vS a1_10),(Sl3.v a1_11),(Sl3.v a1_12),(Sl3.v a1_13),(Sl3.v a1_14)]),(vA #[(vI .i64 a2_0),(vI .i64 a2_1),(vS a2_2),(Sl3.v a2_3)])]) Tryz.func27 (B:=B27) (by kernel_rfl) (fun E _=>?_);unfold Z8 at h;refine t0 (A0 (O0 4 [kI 7 0,kL 6 2 0,kL 5 1 0,kL 4 0 0] ([some (36,[(vI .i64 a1_0),(vB a1_1),(vB a1_2),(Sl3.v a1_3),(vI .i64 a1_4),(Sl3.v a1_5),(vS a1_6),(vI .i64 a1_7),(vI .i64 a1_8),(vI .i64 a1_9),(vS a1_10),(Sl3.v a1_11),(Sl3.v a1_12),(Sl3.v a1_13),(Sl3.v a1_14)]),some (32,[(vI .i64 a2_0),(vI .i64 a2_1),(vS a2_2),(Sl3.v a2_3)]),some (36,[(vI .i64 0),(vB false),(vB false),(Sl3.v Sl3.nil),(vI .i64 0),(Sl3.v Sl3.nil),(vS (⟨#[]⟩:ByteArray)),(vI .i64 0),(vI .i64 0),(vI .i64 0),(vS (⟨#[]⟩:ByteArray)),(Sl3.v Sl3.nil),(Sl3.v Sl3.nil),(Sl3.v Sl3.nil),(Sl3.v Sl3.nil)])]) (u0 (m0 (t0 (t0 (A0 (g0 3 [kA 13 #[(vI .i64 a2_0),(vI .i64 a2_1),(vS a2_2),(Sl3.v a2_3)],kA 12 #[(vI .i64 a1_0),(vB a1_1),(vB a1_2),(Sl3.v a1_3),(vI .i64 a1_4),(Sl3.v a1_5),(vS a1_6),(vI .i64 a1_7),(vI .i64 a1_8),(vI .i64 a1_9),(vS a1_10),(Sl3.v a1_11),(Sl3.v a1_12),(Sl3.v a1_13),(Sl3.v a1_14)],(11,.val (vP a0))] ?_))))))));obtain ⟨⟨x1,H2⟩,hx,h⟩:=bind_some h;try dsimp only at h
 refine RS.cl (some 14) (v:=(vI .i64 x1)) 37 _ (z80 hx) (g0 1 [kI 8 x1] (u0 (m0 (t0 (A0 (g0 2 [kB 16 (!decide (x1=0)),kI 15 x1] (u0 (m0 ?_))))))));rcases J1 h with ⟨hp,h⟩ | ⟨hp,h⟩
 ·refine B0 16 false (C2 hp) (D0 (M0 (m0 (t0 (A0 (g0 3 [kA 22 #[(vI .i64 a2_0),(vI .i64 a2_1),(vS a2_2),(Sl3.v a2_3)],kA 21 #[(vI .i64 a1_0),(vB a1_1),(vB a1_2),(Sl3.v a1_3),(vI .i64 a1_4),(Sl3.v a1_5),(vS a1_6),(vI .i64 a1_7),(vI .i64 a1_8),(vI .i64 a1_9),(vS a1_10),(Sl3.v a1_11),(Sl3.v a1_12),(Sl3.v a1_13),(Sl3.v a1_14)],(20,.val (vP a0))] ?_))))));obtain ⟨⟨x3_0,x3_1,x3_2,x3_3,x3_4,x3_5,x3_6,x3_7,x3_8,x3_9,x3_10,x3_11,x3_12,x3_13,x3_14,x4,H5⟩,hx,h⟩:=bind_some h;try dsimp only at h
  refine RS.cl (some 23) (v:=(Value.tuple #[(vA #[(vI .i64 x3_0),(vB x3_1),(vB x3_2),(Sl3.v x3_3),(vI .i64 x3_4),(Sl3.v x3_5),(vS x3_6),(vI .i64 x3_7),(vI .i64 x3_8),(vI .i64 x3_9),(vS x3_10),(Sl3.v x3_11),(Sl3.v x3_12),(Sl3.v x3_13),(Sl3.v x3_14)]),(vB x4)])) 38 _ (z9c hx) (O0 6 [kB 10 x4,kL 9 3 0,kB 25 x4,kA 24 #[(vI .i64 x3_0),(vB x3_1),(vB x3_2),(Sl3.v x3_3),(vI .i64 x3_4),(Sl3.v x3_5),(vS x3_6),(vI .i64 x3_7),(vI .i64 x3_8),(vI .i64 x3_9),(vS x3_10),(Sl3.v x3_11),(Sl3.v x3_12),(Sl3.v x3_13),(Sl3.v x3_14)],(19,.val (Value.tuple #[(vA #[(vI .i64 x3_0),(vB x3_1),(vB x3_2),(Sl3.v x3_3),(vI .i64 x3_4),(Sl3.v x3_5),(vS x3_6),(vI .i64 x3_7),(vI .i64 x3_8),(vI .i64 x3_9),(vS x3_10),(Sl3.v x3_11),(Sl3.v x3_12),(Sl3.v x3_13),(Sl3.v x3_14)]),(vB x4)]))] ([some (36,[(vI .i64 a1_0),(vB a1_1),(vB a1_2),(Sl3.v a1_3),(vI .i64 a1_4),(Sl3.v a1_5),(vS a1_6),(vI .i64 a1_7),(vI .i64 a1_8),(vI .i64 a1_9),(vS a1_10),(Sl3.v a1_11),(Sl3.v a1_12),(Sl3.v a1_13),(Sl3.v a1_14)]),some (32,[(vI .i64 a2_0),(vI .i64 a2_1),(vS a2_2),(Sl3.v a2_3)]),some (36,[(vI .i64 0),(vB false),(vB false),(Sl3.v Sl3.nil),(vI .i64 0),(Sl3.v Sl3.nil),(vS (⟨#[]⟩:ByteArray)),(vI .i64 0),(vI .i64 0),(vI .i64 0),(vS (⟨#[]⟩:ByteArray)),(Sl3.v Sl3.nil),(Sl3.v Sl3.nil),(Sl3.v Sl3.nil),(Sl3.v Sl3.nil)]),some (36,[(vI .i64 x3_0),(vB x3_1),(vB x3_2),(Sl3.v x3_3),(vI .i64 x3_4),(Sl3.v x3_5),(vS x3_6),(vI .i64 x3_7),(vI .i64 x3_8),(vI .i64 x3_9),(vS x3_10),(Sl3.v x3_11),(Sl3.v x3_12),(Sl3.v x3_13),(Sl3.v x3_14)])]) (u0 (m0 (t0 (t0 (A0 (g0 2 [kB 27 (!x4),kB 26 x4] (u0 (m0 ?_)))))))));rcases J1 h with ⟨hp,h⟩ | ⟨hp,h⟩
  ·refine B0 27 false (nb_not hp) (D0 (M0 (m0 (t0 (A0 (O0 3 [kI 7 0,kA 29 #[(vI .i64 x3_0),(vB x3_1),(vB x3_2),(Sl3.v x3_3),(vI .i64 x3_4),(Sl3.v x3_5),(vS x3_6),(vI .i64 x3_7),(vI .i64 x3_8),(vI .i64 x3_9),(vS x3_10),(Sl3.v x3_11),(Sl3.v x3_12),(Sl3.v x3_13),(Sl3.v x3_14)]] ([some (36,[(vI .i64 a1_0),(vB a1_1),(vB a1_2),(Sl3.v a1_3),(vI .i64 a1_4),(Sl3.v a1_5),(vS a1_6),(vI .i64 a1_7),(vI .i64 a1_8),(vI .i64 a1_9),(vS a1_10),(Sl3.v a1_11),(Sl3.v a1_12),(Sl3.v a1_13),(Sl3.v a1_14)]),some (32,[(vI .i64 a2_0),(vI .i64 a2_1),(vS a2_2),(Sl3.v a2_3)]),some (36,[(vI .i64 x3_0),(vB x3_1),(vB x3_2),(Sl3.v x3_3),(vI .i64 x3_4),(Sl3.v x3_5),(vS x3_6),(vI .i64 x3_7),(vI .i64 x3_8),(vI .i64 x3_9),(vS x3_10),(Sl3.v x3_11),(Sl3.v x3_12),(Sl3.v x3_13),(Sl3.v x3_14)]),some (36,[(vI .i64 x3_0),(vB x3_1),(vB x3_2),(Sl3.v x3_3),(vI .i64 x3_4),(Sl3.v x3_5),(vS x3_6),(vI .i64 x3_7),(vI .i64 x3_8),(vI .i64 x3_9),(vS x3_10),(Sl3.v x3_11),(Sl3.v x3_12),(Sl3.v x3_13),(Sl3.v x3_14)])]) (u0 (m0 (C0 ?_)))))))));cases h;exact fun a w hs=>rtR (rS hs)
  ·refine B0 27 true (Q4 hp) (E0 ?_);cases h
 ·refine B0 16 true (A2 hp) (E0 ?_);cases h
noncomputable def B19:Code:=(Tryz.f19.body).getD .skip
def zcs:(Int×Bool×Bool×Sl3×Int×Sl3×ByteArray×Int×Int×Int×ByteArray×Sl3×Sl3×Sl3×Sl3×Int×AH)→Value
 | (r0,r1,r2,r3,r4,r5,r6,r7,r8,r9,r10,r11,r12,r13,r14,r15,_)=>(Value.tuple #[(vA #[(vI .i64 r0),(vB r1),(vB r2),(Sl3.v r3),(vI .i64 r4),(Sl3.v r5),(vS r6),(vI .i64 r7),(vI .i64 r8),(vI .i64 r9),(vS r10),(Sl3.v r11),(Sl3.v r12),(Sl3.v r13),(Sl3.v r14)]),(vI .i64 r15)])
def zdy (_:AH):(Int×Bool×Bool×Sl3×Int×Sl3×ByteArray×Int×Int×Int×ByteArray×Sl3×Sl3×Sl3×Sl3×Int×AH)→AH:=fun r=>r.2.2.2.2.2.2.2.2.2.2.2.2.2.2.2.2
noncomputable def z3t (L:LC) (m:Nat) (H:AH) (a0_0:Int) (a0_1 a0_2:Bool) (a0_3:Sl3) (a0_4:Int) (a0_5:Sl3) (a0_6:ByteArray) (a0_7 a0_8 a0_9:Int) (a0_10:ByteArray) (a0_11 a0_12:Sl3) (a0_13 a0_14:Sl3) (a1_0 a1_1:Int) (a1_2:ByteArray) (a1_3 a2_0:Sl3) (a2_1 a2_2:Sl3):Option (Int×Bool×Bool×Sl3×Int×Sl3×ByteArray×Int×Int×Int×ByteArray×Sl3×Sl3×Sl3×Sl3×Int×AH) :=
 (z6s L m H a1_0 a1_1 a1_2 a1_3 a2_0 a2_1 a2_2).bind fun (x1,x2,H3) => if x2=0 then
  (Z8 L m H3 x1 a0_0 a0_1 a0_2 a0_3 a0_4 a0_5 a0_6 a0_7 a0_8 a0_9 a0_10 a0_11 a0_12 a0_13 a0_14 a1_0 a1_1 a1_2 a1_3).bind fun (x4_0,x4_1,x4_2,x4_3,x4_4,x4_5,x4_6,x4_7,x4_8,x4_9,x4_10,x4_11,x4_12,x4_13,x4_14,x5,H6) => some (x4_0,x4_1,x4_2,x4_3,x4_4,x4_5,x4_6,x4_7,x4_8,x4_9,x4_10,x4_11,x4_12,x4_13,x4_14,x5,H6)
 else
  none
theorem z7t {L:LC} {m:Nat} {H:AH} {a0_0:Int} {a0_1 a0_2:Bool} {a0_3:Sl3} {a0_4:Int} {a0_5:Sl3} {a0_6:ByteArray} {a0_7 a0_8 a0_9:Int} {a0_10:ByteArray} {a0_11 a0_12:Sl3} {a0_13 a0_14:Sl3} {a1_0 a1_1:Int} {a1_2:ByteArray} {a1_3 a2_0:Sl3} {a2_1 a2_2:Sl3} {r:(Int×Bool×Bool×Sl3×Int×Sl3×ByteArray×Int×Int×Int×ByteArray×Sl3×Sl3×Sl3×Sl3×Int×AH)} (h:z3t L m H a0_0 a0_1 a0_2 a0_3 a0_4 a0_5 a0_6 a0_7 a0_8 a0_9 a0_10 a0_11 a0_12 a0_13 a0_14 a1_0 a1_1 a1_2 a1_3 a2_0 a2_1 a2_2=some r) :
  CallS Tryz.prog (NE.plain 99) m 19 #[(vA #[(vI .i64 a0_0),(vB a0_1),(vB a0_2),(Sl3.v a0_3),(vI .i64 a0_4),(Sl3.v a0_5),(vS a0_6),(vI .i64 a0_7),(vI .i64 a0_8),(vI .i64 a0_9),(vS a0_10),(Sl3.v a0_11),(Sl3.v a0_12),(Sl3.v a0_13),(Sl3.v a0_14)]),(vA #[(vI .i64 a1_0),(vI .i64 a1_1),(vS a1_2),(Sl3.v a1_3)]),(vA #[(Sl3.v a2_0),(Sl3.v a2_1),(Sl3.v a2_2)])] H (zcs r) (zdy H r):=by
 refine CallS.mk (args:=[(vA #[(vI .i64 a0_0),(vB a0_1),(vB a0_2),(Sl3.v a0_3),(vI .i64 a0_4),(Sl3.v a0_5),(vS a0_6),(vI .i64 a0_7),(vI .i64 a0_8),(vI .i64 a0_9),(vS a0_10),(Sl3.v a0_11),(Sl3.v a0_12),(Sl3.v a0_13),(Sl3.v a0_14)]),(vA #[(vI .i64 a1_0),(vI .i64 a1_1),(vS a1_2),(Sl3.v a1_3)]),(vA #[(Sl3.v a2_0),(Sl3.v a2_1),(Sl3.v a2_2)])]) Tryz.func19 (B:=B19) (by kernel_rfl) (fun E _=>?_);unfold z3t at h;refine t0 (A0 (O0 5 [kI 7 0,kL 6 3 0,kL 5 2 0,kL 4 1 0,kL 3 0 0] ([some (36,[(vI .i64 a0_0),(vB a0_1),(vB a0_2),(Sl3.v a0_3),(vI .i64 a0_4),(Sl3.v a0_5),(vS a0_6),(vI .i64 a0_7),(vI .i64 a0_8),(vI .i64 a0_9),(vS a0_10),(Sl3.v a0_11),(Sl3.v a0_12),(Sl3.v a0_13),(Sl3.v a0_14)]),some (32,[(vI .i64 a1_0),(vI .i64 a1_1),(vS a1_2),(Sl3.v a1_3)]),some (62,[(Sl3.v a2_0),(Sl3.v a2_1),(Sl3.v a2_2)]),some (36,[(vI .i64 0),(vB false),(vB false),(Sl3.v Sl3.nil),(vI .i64 0),(Sl3.v Sl3.nil),(vS (⟨#[]⟩:ByteArray)),(vI .i64 0),(vI .i64 0),(vI .i64 0),(vS (⟨#[]⟩:ByteArray)),(Sl3.v Sl3.nil),(Sl3.v Sl3.nil),(Sl3.v Sl3.nil),(Sl3.v Sl3.nil)])]) (u0 (m0 (t0 (A0 (g0 2 [kA 12 #[(Sl3.v a2_0),(Sl3.v a2_1),(Sl3.v a2_2)],kA 11 #[(vI .i64 a1_0),(vI .i64 a1_1),(vS a1_2),(Sl3.v a1_3)]] ?_)))))));obtain ⟨⟨x1,x2,H3⟩,hx,h⟩:=bind_some h;try dsimp only at h
 refine RS.cl (some 13) (v:=(Value.tuple #[(vP x1),(vI .i64 x2)])) 26 _ (zdh hx) (g0 5 [kI 9 x2,(8,.val (vP x1)),kI 15 x2,(14,.val (vP x1)),(10,.val (Value.tuple #[(vP x1),(vI .i64 x2)]))] (u0 (m0 (t0 (t0 (A0 (g0 2 [kB 17 (!decide (x2=0)),kI 16 x2] (u0 (m0 ?_)))))))));rcases J1 h with ⟨hp,h⟩ | ⟨hp,h⟩
 ·refine B0 17 false (C2 hp) (D0 (M0 (m0 (t0 (A0 (g0 3 [kA 22 #[(vI .i64 a1_0),(vI .i64 a1_1),(vS a1_2),(Sl3.v a1_3)],kA 21 #[(vI .i64 a0_0),(vB a0_1),(vB a0_2),(Sl3.v a0_3),(vI .i64 a0_4),(Sl3.v a0_5),(vS a0_6),(vI .i64 a0_7),(vI .i64 a0_8),(vI .i64 a0_9),(vS a0_10),(Sl3.v a0_11),(Sl3.v a0_12),(Sl3.v a0_13),(Sl3.v a0_14)],(20,.val (vP x1))] ?_))))));obtain ⟨⟨x4_0,x4_1,x4_2,x4_3,x4_4,x4_5,x4_6,x4_7,x4_8,x4_9,x4_10,x4_11,x4_12,x4_13,x4_14,x5,H6⟩,hx,h⟩:=bind_some h;try dsimp only at h
  refine RS.cl (some 23) (v:=(Value.tuple #[(vA #[(vI .i64 x4_0),(vB x4_1),(vB x4_2),(Sl3.v x4_3),(vI .i64 x4_4),(Sl3.v x4_5),(vS x4_6),(vI .i64 x4_7),(vI .i64 x4_8),(vI .i64 x4_9),(vS x4_10),(Sl3.v x4_11),(Sl3.v x4_12),(Sl3.v x4_13),(Sl3.v x4_14)]),(vI .i64 x5)])) 27 _ (z79 hx) (O0 4 [kI 7 x5,kI 25 x5,kA 24 #[(vI .i64 x4_0),(vB x4_1),(vB x4_2),(Sl3.v x4_3),(vI .i64 x4_4),(Sl3.v x4_5),(vS x4_6),(vI .i64 x4_7),(vI .i64 x4_8),(vI .i64 x4_9),(vS x4_10),(Sl3.v x4_11),(Sl3.v x4_12),(Sl3.v x4_13),(Sl3.v x4_14)]] ([some (36,[(vI .i64 a0_0),(vB a0_1),(vB a0_2),(Sl3.v a0_3),(vI .i64 a0_4),(Sl3.v a0_5),(vS a0_6),(vI .i64 a0_7),(vI .i64 a0_8),(vI .i64 a0_9),(vS a0_10),(Sl3.v a0_11),(Sl3.v a0_12),(Sl3.v a0_13),(Sl3.v a0_14)]),some (32,[(vI .i64 a1_0),(vI .i64 a1_1),(vS a1_2),(Sl3.v a1_3)]),some (62,[(Sl3.v a2_0),(Sl3.v a2_1),(Sl3.v a2_2)]),some (36,[(vI .i64 x4_0),(vB x4_1),(vB x4_2),(Sl3.v x4_3),(vI .i64 x4_4),(Sl3.v x4_5),(vS x4_6),(vI .i64 x4_7),(vI .i64 x4_8),(vI .i64 x4_9),(vS x4_10),(Sl3.v x4_11),(Sl3.v x4_12),(Sl3.v x4_13),(Sl3.v x4_14)])]) (u0 (m0 (C0 ?_))));cases h;exact fun a w hs=>rtR (rS hs)
 ·refine B0 17 true (A2 hp) (E0 ?_);cases h
noncomputable def B29:Code:=(Tryz.f29.body).getD .skip
def P8:Int→Value
 | r0=>(vI .i64 r0)
def n9 (H:AH):Int→AH:=fun _=>H
noncomputable def Q5 (_L:LC) (H:AH) (a0:Option Addr):Option Int :=
 a0.bind fun q1 => (rd deSl H (Addr.add q1 1)).bind fun x2 => some (x2.n:Int)
theorem j9 {L:LC} {m:Nat} {H:AH} {a0:Option Addr} {r:Int} (h:Q5 L H a0=some r) :
  CallS Tryz.prog (NE.plain 99) m 29 #[(vP a0)] H (P8 r) (n9 H r):=by
 refine CallS.mk (args:=[(vP a0)]) Tryz.func29 (B:=B29) (by kernel_rfl) (fun E _=>?_);unfold Q5 at h;refine t0 (A0 (g0 1 [kI 2 0] (u0 (m0 (t0 (A0 (g0 1 [(3,.val (vP a0))] ?_)))))));obtain ⟨q1,hx,hq1⟩:=bind_some h;subst hx;have h:=hq1;refine g0 2 [(5,.val (vP (some (Addr.add q1 1)))),kP 4 q1] ?_;obtain ⟨x2,hx,h⟩:=bind_some h;refine D1 6 78 (.tmp 5) (I1 hx M1) (g0 2 [kI 2 (x2.n:Int),kI 7 (x2.n:Int)] (u0 (m0 (C0 ?_))));cases h;exact fun a w hs=>rtR (rS hs)
noncomputable def B67:Code:=(Tryz.f67.body).getD .skip
def z14:AH→Value
 | _=>(Value.tuple #[])
def z1c (_:AH):AH→AH:=fun r=>r
noncomputable def E5 (_L:LC) (m:Nat) (H:AH) (a0:Option Addr):Option AH :=
 a0.bind fun q1 => (rd deP H (Addr.add q1 0)).bind fun x2 => match x2 with
 | none =>
  (gOp Tryz.prog m (opsOf (cfst (csnd B67))) 2 [(8,.val (vP (some q1)))] deP H).bind fun (x7,H8) => x7.bind fun q9 => (gOp Tryz.prog m (opsOf (cfst (csnd B67))) 4 [(10,.val (vP (some q9)))] deP H8).bind fun (x10,H11) => (H11.setCell m (Addr.add q1 0) (vP x10)).bind fun H12 => some H12
 | some _ =>
  (rd deP H (Addr.add q1 0)).bind fun x4 => match x4 with
  | none =>
   none
  | some q5 =>
   Option.bind (gOp1 Tryz.prog (opsOf (cfst (csnd (csnd B67)))) 5 [(17,.val (vP (some q5))),(18,.val (vP (some q1)))] deB H) fun x6 => if x6=true then
    none
   else
    some H
theorem z1i {L:LC} {m:Nat} {H:AH} {a0:Option Addr} {r:AH} (h:E5 L m H a0=some r) :
  CallS Tryz.prog (NE.plain 99) m 67 #[(vP a0)] H (z14 r) (z1c H r):=by
 refine CallS.mk (args:=[(vP a0)]) Tryz.func67 (B:=B67) (by kernel_rfl) (fun E _=>?_);unfold E5 at h;refine t0 (A0 (g0 1 [(2,.val (vP a0))] ?_));obtain ⟨q1,hx,hq1⟩:=bind_some h;subst hx;have h:=hq1;refine g0 2 [(4,.val (vP (some (Addr.add q1 0)))),kP 3 q1] ?_;obtain ⟨x2,hx,h⟩:=bind_some h;refine D1 5 77 (.tmp 4) (I1 hx Q9) ?_;rcases x2 with _ | q3
 ·try dsimp only at h
  refine g0 1 [kB 6 true] (u0 (m0 (E0 (A0 (g0 2 [kP 8 q1,kP 7 q1] ?_)))));obtain ⟨⟨x7,H8⟩,hx,h⟩:=bind_some h;try dsimp only at h
  refine T0 (H':=H8) (some 9) (vP x7) (z61 hx Q9 (by kernel_rfl)) ?_;obtain ⟨q9,hx,hq9⟩:=bind_some h;subst hx;have h:=hq9;refine RS.esc (H':=H8) (some 10) (vP (some q9)) (by kernel_rfl) (by kernel_rfl) (by kernel_rfl) (by kernel_rfl) ?_;obtain ⟨⟨x10,H11⟩,hx,h⟩:=bind_some h;try dsimp only at h
  refine T0 (H':=H11) (some 11) (vP x10) (z61 hx Q9 (by kernel_rfl)) (g0 2 [(13,.val (vP (some (Addr.add q1 0)))),kP 12 q1] ?_);obtain ⟨H12,hx,h⟩:=bind_some h;refine T0 (H':=H12) none undef (Abs.run_store1 (t:=77) (x:=.tmp 13) (y:=.tmp 11) (a:=(Addr.add q1 0)) (v:=(vP x10)) (by kernel_rfl) (by kernel_rfl) (by kernel_rfl) (by kernel_rfl) (by kernel_rfl) hx) (u0 ?_);cases h;exact fun a w hs=>rtN (rS hs)
 ·try dsimp only at h
  refine g0 1 [kB 6 false] (u0 (m0 (D0 (t0 (A0 (g0 3 [(16,.val (vP (some (Addr.add q1 0)))),kP 15 q1,kP 14 q1] ?_))))));obtain ⟨x4,hx,h⟩:=bind_some h;refine D1 17 77 (.tmp 16) (I1 hx Q9) (g0 1 [kP 18 q1] ?_);rcases x4 with _ | q5
  ·try dsimp only at h
   cases h
  ·try dsimp only at h
   obtain ⟨x6,hx,h⟩:=bind_some h;refine T0 (H':=H) (some 19) (vB x6) (z4r hx j2 (by kernel_rfl) (by kernel_rfl)) (u0 (m0 ?_));rcases J1 h with ⟨hp,h⟩ | ⟨hp,h⟩
   ·refine B0 19 true hp (E0 ?_);cases h
   ·refine B0 19 false (b_not hp) (D0 (M0 ?_));cases h;exact fun a w hs=>rtN (rS hs)
noncomputable def B40:Code:=(Tryz.f40.body).getD .skip
def T5:(Int×Value×AH)→Value
 | (r0,r1,_)=>(Value.tuple #[(vI .i64 r0),r1])
def n6 (_:AH):(Int×Value×AH)→AH:=fun r=>r.2.2
noncomputable def Y4 (L:LC) (m:Nat) (H:AH) (a0:Option Addr) (a1:ByteArray):Option (Int×Value×AH) :=
 (E5 L m H a0).bind fun H1 => a0.bind fun q2 => (rd deSl H1 (Addr.add q2 1)).bind fun x3 => Option.bind (gOp Tryz.prog m (opsOf (cfst (csnd (csnd B40)))) 6 [(12,.val (Sl3.v x3)),(13,.val (vS a1))] deSl H1) fun (x4,H5) => (H5.setCell m (Addr.add q2 1) (Sl3.v x4)).bind fun H6 => some ((a1.size:Int),Value.nilIface,H6)
theorem zf {L:LC} {m:Nat} {H:AH} {a0:Option Addr} {a1:ByteArray} {r:(Int×Value×AH)} (h:Y4 L m H a0 a1=some r) :
  CallS Tryz.prog (NE.plain 99) m 40 #[(vP a0),(vS a1)] H (T5 r) (n6 H r):=by
 refine CallS.mk (args:=[(vP a0),(vS a1)]) Tryz.func40 (B:=B40) (by kernel_rfl) (fun E _=>?_);unfold Y4 at h;refine t0 (A0 (g0 2 [(5,.val Value.nilIface),kI 4 0] (u0 (m0 (t0 (A0 (g0 1 [(6,.val (vP a0))] ?_)))))));obtain ⟨H1,hx,h⟩:=bind_some h;refine RS.cl (some 7) (v:=(Value.tuple #[])) 67 _ (z1i hx) (u0 (m0 (t0 (A0 (g0 2 [(9,.val (vP a0)),(8,.val (vP a0))] ?_)))));obtain ⟨q2,hx,hq2⟩:=bind_some h;subst hx;have h:=hq2;refine g0 2 [(11,.val (vP (some (Addr.add q2 1)))),kP 10 q2] ?_;obtain ⟨x3,hx,h⟩:=bind_some h;refine D1 12 78 (.tmp 11) (I1 hx M1) (g0 1 [kT 13 a1] ?_);obtain ⟨⟨x4,H5⟩,hx,h⟩:=bind_some h;try dsimp only at h
 refine T0 (H':=H5) (some 14) (Sl3.v x4) (z61 hx M1 (by kernel_rfl)) (g0 2 [(16,.val (vP (some (Addr.add q2 1)))),kP 15 q2] ?_);obtain ⟨H6,hx,h⟩:=bind_some h;refine T0 (H':=H6) none undef (Abs.run_store1 (t:=78) (x:=.tmp 16) (y:=.tmp 14) (a:=(Addr.add q2 1)) (v:=(Sl3.v x4)) (by kernel_rfl) (by kernel_rfl) (by kernel_rfl) (by kernel_rfl) (by kernel_rfl) hx) (u0 (m0 (t0 (A0 (g0 4 [(5,.val Value.nilIface),kI 4 (a1.size:Int),kI 18 (a1.size:Int),kT 17 a1] (u0 (m0 (C0 ?_))))))));cases h;exact fun a w hs=>rtR (rS hs)
noncomputable def B68:Code:=(Tryz.f68.body).getD .skip
def z3s:ByteArray→Value
 | r0=>(vS r0)
def z4w (H:AH):ByteArray→AH:=fun _=>H
noncomputable def O6 (_L:LC) (a0:Bool):Option ByteArray :=
 if a0=true then
  none
 else
  some (⟨#[102,97,108,115,101]⟩:ByteArray)
theorem z4b {L:LC} {m:Nat} {H:AH} {a0:Bool} {r:ByteArray} (h:O6 L a0=some r) :
  CallS Tryz.prog (NE.plain 99) m 68 #[(vB a0)] H (z3s r) (z4w H r):=by
 refine CallS.mk (args:=[(vB a0)]) Tryz.func68 (B:=B68) (by kernel_rfl) (fun E _=>?_);unfold O6 at h;refine t0 (A0 (g0 1 [kT 2 (⟨#[]⟩:ByteArray)] (u0 (m0 (t0 (t0 (A0 (g0 1 [kB 3 a0] (u0 ?_)))))))));refine m0 ?_;rcases J1 h with ⟨hp,h⟩ | ⟨hp,h⟩
 ·refine B0 3 true hp (E0 ?_);cases h
 ·refine B0 3 false (b_not hp) (D0 (M0 (m0 (t0 (A0 (g0 1 [kT 2 (⟨#[102,97,108,115,101]⟩:ByteArray)] (u0 (m0 (C0 ?_)))))))));cases h;exact fun a w hs=>rtR (rS hs)
noncomputable def B41:Code:=(Tryz.f41.body).getD .skip
def b9:ByteArray→Value
 | r0=>(vS r0)
def W9 (H:AH):ByteArray→AH:=fun _=>H
noncomputable def a8 (L:LC) (a0:Bool):Option ByteArray :=
 (O6 L a0).bind fun x1 => some x1
theorem z5z {L:LC} {m:Nat} {H:AH} {a0:Bool} {r:ByteArray} (h:a8 L a0=some r) :
  CallS Tryz.prog (NE.plain 99) m 41 #[(vB a0)] H (b9 r) (W9 H r):=by
 refine CallS.mk (args:=[(vB a0)]) Tryz.func41 (B:=B41) (by kernel_rfl) (fun E _=>?_);unfold a8 at h;refine t0 (A0 (g0 1 [kT 2 (⟨#[]⟩:ByteArray)] (u0 (m0 (t0 (A0 (g0 1 [kB 3 a0] ?_)))))));obtain ⟨x1,hx,h⟩:=bind_some h;refine RS.cl (some 4) (v:=(vS x1)) 68 _ (z4b hx) (g0 1 [kT 2 x1] (u0 (m0 (C0 ?_))));cases h;exact fun a w hs=>rtR (rS hs)
noncomputable def B32:Code:=(Tryz.f32.body).getD .skip
def N6:Bool→Value
 | r0=>(vB r0)
def Z6 (H:AH):Bool→AH:=fun _=>H
noncomputable def W2 (_L:LC) (a0:Sl3):Option Bool :=
 some (decide ((a0.n:Int)=0))
theorem D5 {L:LC} {m:Nat} {H:AH} {a0:Sl3} {r:Bool} (h:W2 L a0=some r) :
  CallS Tryz.prog (NE.plain 99) m 32 #[(Sl3.v a0)] H (N6 r) (Z6 H r):=by
 refine CallS.mk (args:=[(Sl3.v a0)]) Tryz.func32 (B:=B32) (by kernel_rfl) (fun E _=>?_);unfold W2 at h;refine t0 (A0 (g0 1 [kB 2 false] (u0 (m0 (t0 (A0 (g0 4 [kB 2 (decide ((a0.n:Int)=0)),kB 5 (decide ((a0.n:Int)=0)),kI 4 (a0.n:Int),kS 3 a0] (u0 (m0 ?_)))))))));refine C0 ?_;cases h;exact fun a w hs=>rtR (rS hs)
noncomputable def B69:Code:=(Tryz.f69.body).getD .skip
def z6i:Bool→Value
 | r0=>(vB r0)
def z6u (H:AH):Bool→AH:=fun _=>H
noncomputable def W8 (_L:LC) (a0_0:Sl3) (_a0_1:Bool):Option Bool :=
 some (decide ((a0_0.n:Int) > 4096))
theorem z6q {L:LC} {m:Nat} {H:AH} {a0_0:Sl3} {a0_1 r:Bool} (h:W8 L a0_0 a0_1=some r) :
  CallS Tryz.prog (NE.plain 99) m 69 #[(vA #[(Sl3.v a0_0),(vB a0_1)])] H (z6i r) (z6u H r):=by
 refine CallS.mk (args:=[(vA #[(Sl3.v a0_0),(vB a0_1)])]) Tryz.func69 (B:=B69) (by kernel_rfl) (fun E _=>?_);unfold W8 at h;refine t0 (A0 (O0 2 [kB 2 false,kL 1 0 0] ([some (68,[(Sl3.v a0_0),(vB a0_1)])]) (u0 (m0 (t0 (A0 (g0 5 [kB 2 (decide ((a0_0.n:Int) > 4096)),kB 6 (decide ((a0_0.n:Int) > 4096)),kI 5 (a0_0.n:Int),kS 4 a0_0,kL 3 0 0] (u0 (m0 ?_)))))))));refine C0 ?_;cases h;exact fun a w hs=>rtR (rS hs)
noncomputable def B100:Code:=(Tryz.f100.body).getD .skip
def zcg:(Int×Int)→Value
 | (r0,r1)=>(Value.tuple #[(vI .u64 r0),(vI .u64 r1)])
def ze1 (H:AH):(Int×Int)→AH:=fun _=>H
noncomputable def z7f (_L:LC) (_H:AH) (a0 a1 a2:Int):Option (Int×Int) :=
 if a2=0 then
  none
 else
  if a2≤a0 then
   none
  else
   if a0=0 then
    Option.bind (if a2=0 then none else some (IntKind.u64.wrap (Int.tdiv a1 a2))) fun x1 => Option.bind (if a2=0 then none else some (Int.tmod a1 a2)) fun x2 => some (x1,x2)
   else
    none
theorem zdu {L:LC} {m:Nat} {H:AH} {a0 a1 a2:Int} {r:(Int×Int)} (h:z7f L H a0 a1 a2=some r) :
  CallS Tryz.prog (NE.plain 99) m 100 #[(vI .u64 a0),(vI .u64 a1),(vI .u64 a2)] H (zcg r) (ze1 H r):=by
 refine CallS.mk (args:=[(vI .u64 a0),(vI .u64 a1),(vI .u64 a2)]) Tryz.func100 (B:=B100) (by kernel_rfl) (fun E _=>?_);unfold z7f at h;refine t0 (A0 (g0 2 [(7,.val (vI .u64 0)),(6,.val (vI .u64 0))] (u0 (m0 (t0 (t0 (A0 (g0 2 [kB 20 (decide (a2=0)),(19,.val (vI .u64 a2))] (u0 ?_)))))))));refine m0 ?_;rcases J1 h with ⟨hp,h⟩ | ⟨hp,h⟩
 ·refine B0 20 true (decide_eq_true hp) (E0 ?_);cases h
 ·refine B0 20 false (decide_eq_false hp) (D0 (M0 (m0 (t0 (t0 (A0 (g0 3 [kB 24 (decide (a2≤a0)),(23,.val (vI .u64 a0)),(22,.val (vI .u64 a2))] (u0 (m0 ?_)))))))));rcases J1 h with ⟨hp,h⟩ | ⟨hp,h⟩
  ·refine B0 24 true (decide_eq_true hp) (E0 ?_);cases h
  ·refine B0 24 false (decide_eq_false hp) (D0 (M0 (m0 (t0 (t0 (A0 (g0 2 [kB 27 (decide (a0=0)),(26,.val (vI .u64 a0))] (u0 (m0 ?_)))))))));rcases J1 h with ⟨hp,h⟩ | ⟨hp,h⟩
   ·refine B0 27 true (decide_eq_true hp) (E0 (t0 ?_));obtain ⟨x1,hx_2,h⟩:=bind_some h;obtain ⟨x2,hx_5,h⟩:=bind_some h;refine WS.toone ([(6,.val (vI .u64 x1)),(7,.val (vI .u64 x2))]) ([]) H ?_ ?_
    ·clear h;refine C1 [] [0,0,3,0,0,24,7,127] 8 (fun hcl=>?_);refine N0 0 (some 28) (vI .u64 a1) (N0 1 (some 29) (vI .u64 a2) (N0 3 (some 31) (vI .u64 a1) (N0 4 (some 32) (vI .u64 a2) ?_)));refine R0 2 5 (by kernel_rfl) ?_ ?_
     ·refine V0 (H':=H) 2 (some 30) (vI .u64 x1) (Abs.run_bquo (t:=53) (u:=53) (x:=.tmp 28) (y:=.tmp 29) (by kernel_rfl) (by kernel_rfl) (by kernel_rfl) hx_2) (N0 6 (some 6) (vI .u64 x1) (DA.on 5 (V0 (H':=H) 5 (some 33) (vI .u64 x2) (Abs.run_brem (t:=53) (u:=53) (x:=.tmp 31) (y:=.tmp 32) (by kernel_rfl) (by kernel_rfl) (by kernel_rfl) hx_5) (N0 7 (some 7) (vI .u64 x2) (K0 ?_)))));exact fun a w hs=>jsN (hs.sb 0)
     ·refine V0 (H':=H) 5 (some 33) (vI .u64 x2) (Abs.run_brem (t:=53) (u:=53) (x:=.tmp 31) (y:=.tmp 32) (by kernel_rfl) (by kernel_rfl) (by kernel_rfl) hx_5) (DA.on 2 (V0 (H':=H) 2 (some 30) (vI .u64 x1) (Abs.run_bquo (t:=53) (u:=53) (x:=.tmp 28) (y:=.tmp 29) (by kernel_rfl) (by kernel_rfl) (by kernel_rfl) hx_2) (N0 6 (some 6) (vI .u64 x1) (N0 7 (some 7) (vI .u64 x2) (K0 ?_)))));exact fun a w hs=>jsN (hs.sb 0)
    ·refine m0 (C0 ?_);cases h;exact fun a w hs=>sqR (rtR (rS hs))
   ·refine B0 27 false (decide_eq_false hp) (D0 ?_);cases h
noncomputable def B70:Code:=(Tryz.f70.body).getD .skip
def Q8:(Sl3×Int×AH)→Value
 | (r0,r1,_)=>(Value.tuple #[(Sl3.v r0),(vI .u64 r1)])
def g9 (_:AH):(Sl3×Int×AH)→AH:=fun r=>r.2.2
noncomputable def C6 (L:LC) (m:Nat) (a0:Sl3) (a1:Int) (s1:Sl3):(AH×Int×Int)→Option (Lp (AH×Int×Int) (Sl3×Int×AH)):=fun (H3,v7_4,v8_5) =>
 if v8_5≥0 then
  (idxA 1 a0 v8_5).bind fun p6 => (rd (deI .u64) H3 p6).bind fun x7 => (z7f L H3 v7_4 x7 a1).bind fun (x8,x9) => (idxA 1 s1 v8_5).bind fun p10 => (H3.setCell m p10 (vI .u64 x8)).bind fun H11 => some (.next (H11,x9,(IntKind.i64.wrap (v8_5 - 1))))
 else
  some (.brk (H3,v7_4,v8_5))
def z3i (_L:LC) (_m:Nat) (a0:Sl3) (a1:Int) (s1:Sl3):(AH×Int×Int)→KN×Lcs:=fun (_,v7_4,v8_5)=>([(7,.val (vI .u64 v7_4)),kI 8 v8_5,kS 0 a0,(1,.val (vI .u64 a1)),kS 6 s1],[])
noncomputable def J7 (L:LC) (m:Nat) (H:AH) (a0:Sl3) (a1:Int):Option (Sl3×Int×AH) :=
 (mkS 53 1 8 #[(vI .u64 0)] H (a0.n:Int) (a0.n:Int)).bind fun (s1,H2) => Option.bind (L.run (C6 L m a0 a1 s1) (H2,0,(IntKind.i64.wrap ((a0.n:Int) - 1)))) fun o=>match o with
 | .inl (H12,v7_13,_) =>
  (V3 L H12 s1).bind fun x15 => some (x15,v7_13,H12)
 | .inr r=>some r
theorem P7 {E H L m a0 a1 s1} :LoopF Tryz.prog (NE.plain 99) m E Tryz.f70 ((cfst (csnd (cfst (csnd (csnd (csnd B70))))))) (z3i L m a0 a1 s1) (fun s=>s.1) 0 Q8 (g9 H) (C6 L m a0 a1 s1):=by
 rintro ⟨H3,v7_4,v8_5⟩ o h
 unfold C6 at h;try dsimp only at h
 refine t0 (t0 (A0 (g0 2 [kB 16 (decide (v8_5≥0)),kI 15 v8_5] (u0 (m0 ?_)))));rcases J1 h with ⟨hp,h⟩ | ⟨hp,h⟩
 ·refine B0 16 true (decide_eq_true hp) (E0 (M0 (m0 (t0 (P0 1 (A0 (g0 5 [kI 24 v8_5,kS 23 a0,(22,.val (vI .u64 v7_4)),kI 21 v8_5,kS 20 s1] ?_)))))));obtain ⟨p6,hx,h⟩:=bind_some h;refine RS.ix 25 66 53 (.tmp 23) (.tmp 24) hx ?_;obtain ⟨x7,hx,h⟩:=bind_some h;refine D1 26 53 (.tmp 25) (I1 hx N1) (g0 1 [(27,.val (vI .u64 a1))] ?_);obtain ⟨⟨x8,x9⟩,hx,h⟩:=bind_some h;try dsimp only at h
  refine RS.cl (some 28) (v:=(Value.tuple #[(vI .u64 x8),(vI .u64 x9)])) 100 _ (zdu hx) (g0 3 [(30,.val (vI .u64 x9)),(29,.val (vI .u64 x8)),(19,.val (Value.tuple #[(vI .u64 x8),(vI .u64 x9)]))] ?_);obtain ⟨p10,hx,h⟩:=bind_some h;refine RS.ix 31 23 53 (.tmp 20) (.tmp 21) hx ?_;obtain ⟨H11,hx,h⟩:=bind_some h;refine T0 (H':=H11) none undef (Abs.run_store1 (t:=53) (x:=.tmp 31) (y:=.tmp 29) (a:=p10) (v:=(vI .u64 x8)) (by kernel_rfl) (by kernel_rfl) (by kernel_rfl) (by kernel_rfl) (by kernel_rfl) hx) (g0 1 [(7,.val (vI .u64 x9))] (u0 ?_));refine fun a w hs=>bkN ((m0 ?_ a w hs));refine A0 (g0 3 [kI 8 (IntKind.i64.wrap (v8_5 - 1)),kI 18 (IntKind.i64.wrap (v8_5 - 1)),kI 17 v8_5] (u0 ?_));cases h;exact fun a w hs=>lsN rfl (hs.sb 0)
 ·refine B0 16 false (decide_eq_false hp) (D0 (WS.ex 0 ?_));cases h;exact fun a w hs=>sqE (lsB rfl (hs.sb 0))
theorem z5w {L:LC} {m:Nat} {H:AH} {a0:Sl3} {a1:Int} {r:(Sl3×Int×AH)} (h:J7 L m H a0 a1=some r) :
  CallS Tryz.prog (NE.plain 99) m 70 #[(Sl3.v a0),(vI .u64 a1)] H (Q8 r) (g9 H r):=by
 refine CallS.mk (args:=[(Sl3.v a0),(vI .u64 a1)]) Tryz.func70 (B:=B70) (by kernel_rfl) (fun E _=>?_);unfold J7 at h;refine t0 (A0 (g0 2 [(5,.val (vI .u64 0)),kS 4 Sl3.nil] (u0 (m0 (t0 (A0 (g0 2 [kI 10 (a0.n:Int),kS 9 a0] ?_)))))));obtain ⟨⟨s1,H2⟩,hx,h⟩:=bind_some h;try dsimp only at h
 refine T0 (H':=H2) (some 11) (Sl3.v s1) (Abs.run_mk (t:=23) (x:=.tmp 10) (y:=.tmp 10) (k1:=.i64) (k2:=.i64) (by kernel_rfl) (by kernel_rfl) (by kernel_rfl) (by kernel_rfl) hx) (g0 1 [kS 6 s1] (u0 (m0 (t0 (A0 (g0 1 [(7,.val (vI .u64 0))] (u0 (m0 (t0 ?_)))))))));refine t0 (A0 (g0 4 [kI 8 (IntKind.i64.wrap ((a0.n:Int) - 1)),kI 14 (IntKind.i64.wrap ((a0.n:Int) - 1)),kI 13 (a0.n:Int),kS 12 a0] (u0 (m0 (P0 0 ?_)))));obtain ⟨o,hl,h⟩:=bind_some h;rcases o with ⟨H12,v7_13,v8_14⟩ | r
 ·try dsimp only at h
  refine Y0 (P7 (L:=L) (E:=E) (m:=m) (H:=H)) (L.ok hl) 0 ?_;clear hl;refine fun a w hs=>bkE ((m0 ?_ a w hs));refine t0 (A0 (g0 1 [kS 32 s1] ?_));obtain ⟨x15,hx,h⟩:=bind_some h;refine RS.cl (some 33) (v:=(Sl3.v x15)) 31 _ (X6 hx) (g0 3 [(5,.val (vI .u64 v7_13)),kS 4 x15,(34,.val (vI .u64 v7_13))] (u0 (m0 (C0 ?_))));cases h;exact fun a w hs=>rtR (rS hs)
 ·try dsimp only at h
  refine X0 (P7 (L:=L) (E:=E) (m:=m) (H:=H)) (L.ok hl) 0 ?_;cases h;exact fun a w hq=>bkR (sqR (rtR hq))
noncomputable def B127:Code:=(Tryz.f127.body).getD .skip
def za4:ByteArray→Value
 | r0=>(vS r0)
def zbf (H:AH):ByteArray→AH:=fun _=>H
noncomputable def z2x (_L:LC) (a0:Int):Option ByteArray :=
 if a0<10 then
  (strC (⟨#[48,49,50,51,52,53,54,55,56,57,97,98,99,100,101,102,103,104,105,106,107,108,109,110,111,112,113,114,115,116,117,118,119,120,121,122]⟩:ByteArray) (some a0) (some (IntKind.i64.wrap (a0+1)))).bind fun s1 => some s1
 else
  none
theorem zau {L:LC} {m:Nat} {H:AH} {a0:Int} {r:ByteArray} (h:z2x L a0=some r) :
  CallS Tryz.prog (NE.plain 99) m 127 #[(vI .i64 a0)] H (za4 r) (zbf H r):=by
 refine CallS.mk (args:=[(vI .i64 a0)]) Tryz.func127 (B:=B127) (by kernel_rfl) (fun E _=>?_);unfold z2x at h;refine t0 (A0 (g0 1 [kT 2 (⟨#[]⟩:ByteArray)] (u0 (m0 (t0 (t0 (A0 (g0 2 [kB 4 (decide (a0<10)),kI 3 a0] (u0 ?_)))))))));refine m0 ?_;rcases J1 h with ⟨hp,h⟩ | ⟨hp,h⟩
 ·refine B0 4 true (decide_eq_true hp) (E0 (t0 (A0 (g0 3 [kI 7 (IntKind.i64.wrap (a0+1)),kI 6 a0,kI 5 a0] ?_))));obtain ⟨s1,hx,h⟩:=bind_some h;refine T0 (H':=H) (some 8) (vS s1) (Abs.run_strC (t:=9) (x:=.const (vS (⟨#[48,49,50,51,52,53,54,55,56,57,97,98,99,100,101,102,103,104,105,106,107,108,109,110,111,112,113,114,115,116,117,118,119,120,121,122]⟩:ByteArray))) (lo:=(some (.tmp 5))) (hi:=(some (.tmp 7))) (s:=(⟨#[48,49,50,51,52,53,54,55,56,57,97,98,99,100,101,102,103,104,105,106,107,108,109,110,111,112,113,114,115,116,117,118,119,120,121,122]⟩:ByteArray)) (k1:=.i64) (k2:=.i64) (by kernel_rfl) (by kernel_rfl) (by kernel_rfl) (by kernel_rfl) (by kernel_rfl) hx) (g0 1 [kT 2 s1] (u0 (m0 (C0 ?_))));cases h;exact fun a w hs=>sqR (rtR (rS hs))
 ·refine B0 4 false (decide_eq_false hp) (D0 ?_);cases h
noncomputable def B101:Code:=(Tryz.f101.body).getD .skip
def z2p:(ByteArray×AH)→Value
 | (r0,_)=>(vS r0)
def z3g (_:AH):(ByteArray×AH)→AH:=fun r=>r.2
noncomputable def D6 (L:LC) (_m:Nat) (H:AH) (a0 a1:Int):Option (ByteArray×AH) :=
 if a1=10 then
  if a0<100 then
   (z2x L (IntKind.i64.wrap a0)).bind fun x1 => some (x1,H)
  else
   none
 else
  none
theorem z3j {L:LC} {m:Nat} {H:AH} {a0 a1:Int} {r:(ByteArray×AH)} (h:D6 L m H a0 a1=some r) :
  CallS Tryz.prog (NE.plain 99) m 101 #[(vI .u64 a0),(vI .i64 a1)] H (z2p r) (z3g H r):=by
 refine CallS.mk (args:=[(vI .u64 a0),(vI .i64 a1)]) Tryz.func101 (B:=B101) (by kernel_rfl) (fun E _=>?_);unfold D6 at h;refine t0 (A0 (g0 1 [kT 4 (⟨#[]⟩:ByteArray)] (u0 (m0 (t0 (t0 (A0 (g0 2 [kB 10 (decide (a1=10)),kI 9 a1] (u0 ?_)))))))));refine m0 ?_;rcases J1 h with ⟨hp,h⟩ | ⟨hp,h⟩
 ·refine B0 10 true (decide_eq_true hp) (E0 (t0 (t0 (A0 (g0 2 [kB 12 (decide (a0<100)),(11,.val (vI .u64 a0))] (u0 (m0 ?_)))))));rcases J1 h with ⟨hp,h⟩ | ⟨hp,h⟩
  ·refine B0 12 true (decide_eq_true hp) (E0 (t0 (A0 (g0 2 [kI 14 (IntKind.i64.wrap a0),(13,.val (vI .u64 a0))] ?_))));obtain ⟨x1,hx,h⟩:=bind_some h;refine RS.cl (some 15) (v:=(vS x1)) 127 _ (zau hx) (g0 1 [kT 4 x1] (u0 (m0 (C0 ?_))));cases h;exact fun a w hs=>sqR (sqR (rtR (rS hs)))
  ·refine B0 12 false (decide_eq_false hp) (D0 ?_);cases h
 ·refine B0 10 false (decide_eq_false hp) (D0 ?_);cases h
noncomputable def B71:Code:=(Tryz.f71.body).getD .skip
def z5s:(ByteArray×AH)→Value
 | (r0,_)=>(vS r0)
def z6k (_:AH):(ByteArray×AH)→AH:=fun r=>r.2
noncomputable def q8 (L:LC) (m:Nat) (H:AH) (a0 a1:Int):Option (ByteArray×AH) :=
 (D6 L m H a0 a1).bind fun (x1,H2) => some (x1,H2)
theorem z6b {L:LC} {m:Nat} {H:AH} {a0 a1:Int} {r:(ByteArray×AH)} (h:q8 L m H a0 a1=some r) :
  CallS Tryz.prog (NE.plain 99) m 71 #[(vI .u64 a0),(vI .i64 a1)] H (z5s r) (z6k H r):=by
 refine CallS.mk (args:=[(vI .u64 a0),(vI .i64 a1)]) Tryz.func71 (B:=B71) (by kernel_rfl) (fun E _=>?_);unfold q8 at h;refine t0 (A0 (g0 1 [kT 4 (⟨#[]⟩:ByteArray)] (u0 (m0 (t0 (A0 (g0 2 [kI 6 a1,(5,.val (vI .u64 a0))] ?_)))))));obtain ⟨⟨x1,H2⟩,hx,h⟩:=bind_some h;try dsimp only at h
 refine RS.cl (some 7) (v:=(vS x1)) 101 _ (z3j hx) (g0 1 [kT 4 x1] (u0 (m0 (C0 ?_))));cases h;exact fun a w hs=>rtR (rS hs)
noncomputable def B72:Code:=(Tryz.f72.body).getD .skip
def z2b:AH→Value
 | _=>(Value.tuple #[])
def z3b (_:AH):AH→AH:=fun r=>r
noncomputable def X8 (_L:LC) (_a0:Sl3):(AH×Int×Int)→Option (Lp (AH×Int×Int) AH):=fun (H1,v2_2,v3_3) =>
 if v2_2<v3_3 then
  none
 else
  some (.brk (H1,v2_2,v3_3))
def z73 (_L:LC) (a0:Sl3):(AH×Int×Int)→KN×Lcs:=fun (_,v2_2,v3_3)=>([kI 2 v2_2,kI 3 v3_3,kS 0 a0],[])
noncomputable def z1h (L:LC) (_m:Nat) (H:AH) (a0:Sl3):Option AH :=
 Option.bind (L.run (X8 L a0) (H,0,(IntKind.i64.wrap ((a0.n:Int) - 1)))) fun o=>match o with
 | .inl (H4,_,_) =>
  some H4
 | .inr r=>some r
theorem zd {E m H L a0} :LoopF Tryz.prog (NE.plain 99) m E Tryz.f72 ((cfst (csnd B72))) (z73 L a0) (fun s=>s.1) 0 z2b (z3b H) (X8 L a0):=by
 rintro ⟨H1,v2_2,v3_3⟩ o h
 unfold X8 at h;try dsimp only at h
 refine t0 (t0 (A0 (g0 3 [kB 9 (decide (v2_2<v3_3)),kI 8 v3_3,kI 7 v2_2] (u0 (m0 ?_)))));rcases J1 h with ⟨hp,h⟩ | ⟨hp,h⟩
 ·refine B0 9 true (decide_eq_true hp) (E0 ?_);cases h
 ·refine B0 9 false (decide_eq_false hp) (D0 (WS.ex 0 ?_));cases h;exact fun a w hs=>sqE (lsB rfl (hs.sb 0))
theorem za8 {L:LC} {m:Nat} {H:AH} {a0:Sl3} {r:AH} (h:z1h L m H a0=some r) :
  CallS Tryz.prog (NE.plain 99) m 72 #[(Sl3.v a0)] H (z2b r) (z3b H r):=by
 refine CallS.mk (args:=[(Sl3.v a0)]) Tryz.func72 (B:=B72) (by kernel_rfl) (fun E _=>?_);unfold z1h at h;refine t0 (A0 (g0 5 [kI 3 (IntKind.i64.wrap ((a0.n:Int) - 1)),kI 2 0,kI 6 (IntKind.i64.wrap ((a0.n:Int) - 1)),kI 5 (a0.n:Int),kS 4 a0] (u0 (m0 (P0 0 ?_)))));obtain ⟨o,hl,h⟩:=bind_some h;rcases o with ⟨H4,v2_5,v3_6⟩ | r
 ·try dsimp only at h
  refine Y0 (zd (L:=L) (E:=E) (m:=m) (H:=H)) (L.ok hl) 0 ?_;clear hl;cases h;exact fun a w hs=>bkE (rtN (rS hs))
 ·try dsimp only at h
  refine X0 (zd (L:=L) (E:=E) (m:=m) (H:=H)) (L.ok hl) 0 ?_;cases h;exact fun a w hq=>bkR (rtR hq)
noncomputable def B73:Code:=(Tryz.f73.body).getD .skip
def zb7:(ByteArray×AH)→Value
 | (r0,_)=>(vS r0)
def zc7 (_:AH):(ByteArray×AH)→AH:=fun r=>r.2
noncomputable def z3y (_L:LC) (_m:Nat) (H:AH) (a0:Sl3) (_a1:ByteArray):Option (ByteArray×AH) :=
 if (a0.n:Int)=0 then
  none
 else
  if (a0.n:Int)=1 then
   (idxA 1 a0 0).bind fun p1 => (rd deS H p1).bind fun x2 => some (x2,H)
  else
   none
theorem zc8 {L:LC} {m:Nat} {H:AH} {a0:Sl3} {a1:ByteArray} {r:(ByteArray×AH)} (h:z3y L m H a0 a1=some r) :
  CallS Tryz.prog (NE.plain 99) m 73 #[(Sl3.v a0),(vS a1)] H (zb7 r) (zc7 H r):=by
 refine CallS.mk (args:=[(Sl3.v a0),(vS a1)]) Tryz.func73 (B:=B73) (by kernel_rfl) (fun E _=>?_);unfold z3y at h;refine t0 (A0 (g0 1 [kT 4 (⟨#[]⟩:ByteArray)] (u0 (m0 (t0 (t0 (A0 (g0 2 [kI 12 (a0.n:Int),kS 11 a0] (u0 ?_)))))))));refine m0 (P0 0 (t0 (A0 (g0 2 [kB 13 (decide ((a0.n:Int)=0)),kB 14 (decide ((a0.n:Int)=0))] (u0 (m0 ?_))))));rcases J1 h with ⟨hp,h⟩ | ⟨hp,h⟩
 ·refine B0 13 true (decide_eq_true hp) (E0 ?_);cases h
 ·refine B0 13 false (decide_eq_false hp) (D0 (t0 (A0 (g0 2 [kB 15 (decide ((a0.n:Int)=1)),kB 16 (decide ((a0.n:Int)=1))] (u0 (m0 ?_))))));rcases J1 h with ⟨hp,h⟩ | ⟨hp,h⟩
  ·refine B0 15 true (decide_eq_true hp) (E0 (t0 (A0 (g0 1 [kS 17 a0] ?_))));obtain ⟨p1,hx,h⟩:=bind_some h;refine RS.ix 18 58 9 (.tmp 17) (.const (vI .i64 0)) hx ?_;obtain ⟨x2,hx,h⟩:=bind_some h;refine D1 19 9 (.tmp 18) (I1 hx X1) (g0 1 [kT 4 x2] (u0 (m0 (C0 ?_))));cases h;exact fun a w hs=>bkR (sqR (rtR (rS hs)))
  ·refine B0 15 false (decide_eq_false hp) (D0 ?_);cases h
noncomputable def B42:Code:=(Tryz.f42.body).getD .skip
def z7:(ByteArray×Int×AH)→Value
 | (r0,r1,_)=>(Value.tuple #[(vS r0),(vI .i64 r1)])
def z1s (_:AH):(ByteArray×Int×AH)→AH:=fun r=>r.2.2
noncomputable def z1f (L:LC) (m:Nat) (_a0_0:Bool) (_a0_1 _x1_0:Sl3) (_x1_1:Bool):(AH×Sl3×Sl3)→Option (Lp (AH×Sl3×Sl3) (ByteArray×Int×AH)):=fun (H3,v5_4,v6_5) =>
 (W2 L v6_5).bind fun x6 => if x6=true then
  some (.brk (H3,v5_4,v6_5))
 else
  (J7 L m H3 v6_5 1000000000000000000).bind fun (x7,x8,H9) => (q8 L m H9 x8 10).bind fun (x10,H11) => (W2 L x7).bind fun x12 => if x12=true then
   (newR 9 1 #[(vS x10)] H11).bind fun (s13,H14) => (appS m 9 1 16 H14 v5_4 s13).bind fun (s15,H16) => some (.next (H16,s15,x7))
  else
   none
def za1 (_L:LC) (_m:Nat) (a0_0:Bool) (a0_1 x1_0:Sl3) (x1_1:Bool):(AH×Sl3×Sl3)→KN×Lcs:=fun (_,v5_4,v6_5)=>([kS 5 v5_4,kS 6 v6_5,kL 4 1 0],[some (26,[(vB a0_0),(Sl3.v a0_1)]),some (68,[(Sl3.v x1_0),(vB x1_1)])])
noncomputable def z5j (L:LC) (m:Nat) (H:AH) (a0_0:Bool) (a0_1:Sl3):Option (ByteArray×Int×AH) :=
 (t4 L H a0_0 a0_1).bind fun (x1_0,x1_1) => (W8 L x1_0 x1_1).bind fun x2 => if x2=true then
  none
 else
  (L.run (z1f L m a0_0 a0_1 x1_0 x1_1) (H,Sl3.nil,x1_0)).bind fun o=>match o with
  | .inl (H17,v5_18,_) =>
   if (v5_18.n:Int)=0 then
    none
   else
    if x1_1=true then
     none
    else
     (z1h L m H17 v5_18).bind fun H20 => (z3y L m H20 v5_18 (⟨#[]⟩:ByteArray)).bind fun (x21,H22) => some (x21,0,H22)
  | .inr r=>some r
theorem z3a {E H L m a0_0 a0_1 x1_0 x1_1} :LoopF Tryz.prog (NE.plain 99) m E Tryz.f42 ((cfst (cfst (csnd (csnd (csnd (csnd (csnd B42)))))))) (za1 L m a0_0 a0_1 x1_0 x1_1) (fun s=>s.1) 0 z7 (z1s H) (z1f L m a0_0 a0_1 x1_0 x1_1):=by
 rintro ⟨H3,v5_4,v6_5⟩ o h
 unfold z1f at h;try dsimp only at h
 refine t0 (t0 (A0 (g0 1 [kS 16 v6_5] ?_)));obtain ⟨x6,hx,h⟩:=bind_some h;refine RS.cl (some 17) (v:=(vB x6)) 32 _ (D5 hx) (g0 1 [kB 18 (!x6)] (u0 (m0 ?_)));rcases J1 h with ⟨hp,h⟩ | ⟨hp,h⟩
 ·refine B0 18 false (nb_not hp) (D0 (WS.ex 0 ?_));cases h;exact fun a w hs=>sqE (lsB rfl (hs.sb 2))
 ·refine B0 18 true (Q4 hp) (E0 (M0 (m0 (P0 1 (t0 (A0 (g0 1 [kS 20 v6_5] ?_)))))));obtain ⟨⟨x7,x8,H9⟩,hx,h⟩:=bind_some h;try dsimp only at h
  refine RS.cl (some 21) (v:=(Value.tuple #[(Sl3.v x7),(vI .u64 x8)])) 70 _ (z5w hx) (g0 5 [(8,.val (vI .u64 x8)),kS 7 x7,(23,.val (vI .u64 x8)),kS 22 x7,(19,.val (Value.tuple #[(Sl3.v x7),(vI .u64 x8)]))] (u0 (m0 (t0 (A0 (g0 1 [(24,.val (vI .u64 x8))] ?_))))));obtain ⟨⟨x10,H11⟩,hx,h⟩:=bind_some h;try dsimp only at h
  refine RS.cl (some 25) (v:=(vS x10)) 71 _ (z6b hx) (g0 1 [kT 9 x10] (u0 (m0 (t0 (t0 (A0 (g0 1 [kS 26 x7] ?_)))))));obtain ⟨x12,hx,h⟩:=bind_some h;refine RS.cl (some 27) (v:=(vB x12)) 32 _ (D5 hx) (g0 1 [kB 28 (!x12)] (u0 (m0 ?_)));rcases J1 h with ⟨hp,h⟩ | ⟨hp,h⟩
  ·refine B0 28 false (nb_not hp) (D0 (M0 (m0 (t0 (A0 (g0 2 [kT 36 x10,kS 35 v5_4] ?_))))));obtain ⟨⟨s13,H14⟩,hx,h⟩:=bind_some h;try dsimp only at h
   refine T0 (H':=H14) (some 37) (Sl3.v s13) (Abs.run_newR (by kernel_rfl) (by kernel_rfl) hx) ?_;obtain ⟨⟨s15,H16⟩,hx,h⟩:=bind_some h;try dsimp only at h
   refine T0 (H':=H16) (some 38) (Sl3.v s15) (Abs.run_app (x:=.tmp 35) (y:=.tmp 37) (ts:=#[58,58]) (s:=v5_4) (z:=s13) (by kernel_rfl) (by kernel_rfl) (by kernel_rfl) (by kernel_rfl) hx) (g0 1 [kS 5 s15] (u0 (m0 (A0 (g0 2 [kS 6 x7,kS 39 x7] (u0 ?_))))));cases h;exact fun a w hs=>bkN (lsN rfl (hs.sb 2))
  ·refine B0 28 true (Q4 hp) (E0 ?_);cases h
theorem zcd {L:LC} {m:Nat} {H:AH} {a0_0:Bool} {a0_1:Sl3} {r:(ByteArray×Int×AH)} (h:z5j L m H a0_0 a0_1=some r) :
  CallS Tryz.prog (NE.plain 99) m 42 #[(vA #[(vB a0_0),(Sl3.v a0_1)])] H (z7 r) (z1s H r):=by
 refine CallS.mk (args:=[(vA #[(vB a0_0),(Sl3.v a0_1)])]) Tryz.func42 (B:=B42) (by kernel_rfl) (fun E _=>?_);unfold z5j at h;refine t0 (A0 (O0 3 [kI 3 0,kT 2 (⟨#[]⟩:ByteArray),kL 1 0 0] ([some (26,[(vB a0_0),(Sl3.v a0_1)])]) (u0 (m0 (t0 (A0 (g0 1 [kA 10 #[(vB a0_0),(Sl3.v a0_1)]] ?_)))))));obtain ⟨⟨x1_0,x1_1⟩,hx,h⟩:=bind_some h;try dsimp only at h
 refine RS.cl (some 11) (v:=(vA #[(Sl3.v x1_0),(vB x1_1)])) 22 _ (G5 hx) (O0 2 [kL 4 1 0] ([some (26,[(vB a0_0),(Sl3.v a0_1)]),some (68,[(Sl3.v x1_0),(vB x1_1)])]) (u0 (m0 (t0 (t0 (A0 (g0 1 [kA 12 #[(Sl3.v x1_0),(vB x1_1)]] ?_)))))));obtain ⟨x2,hx,h⟩:=bind_some h;refine RS.cl (some 13) (v:=(vB x2)) 69 _ (z6q hx) (u0 (m0 ?_));rcases J1 h with ⟨hp,h⟩ | ⟨hp,h⟩
 ·refine B0 13 true hp (E0 ?_);cases h
 ·refine B0 13 false (b_not hp) (D0 (M0 (m0 (t0 (A0 (g0 1 [kS 5 Sl3.nil] (u0 (m0 (t0 ?_)))))))));refine A0 (g0 3 [kS 6 x1_0,kS 15 x1_0,kL 14 1 0] (u0 (m0 (t0 (P0 0 ?_)))));obtain ⟨o,hl,h⟩:=bind_some h;rcases o with ⟨H17,v5_18,v6_19⟩ | r
  ·try dsimp only at h
   refine Y0 (z3a (L:=L) (E:=E) (m:=m) (H:=H)) (L.ok hl) 2 ?_;clear hl;refine fun a w hs=>bkE ((m0 ?_ a w hs));refine t0 (t0 (A0 (g0 3 [kB 42 (decide ((v5_18.n:Int)=0)),kI 41 (v5_18.n:Int),kS 40 v5_18] (u0 (m0 ?_)))));rcases J1 h with ⟨hp,h⟩ | ⟨hp,h⟩
   ·refine B0 42 true (decide_eq_true hp) (E0 ?_);cases h
   ·refine B0 42 false (decide_eq_false hp) (D0 (M0 (m0 (t0 (t0 (A0 (g0 2 [kB 44 x1_1,kL 43 1 1] (u0 (m0 ?_)))))))));rcases J1 h with ⟨hp,h⟩ | ⟨hp,h⟩
    ·refine B0 44 true hp (E0 ?_);cases h
    ·refine B0 44 false (b_not hp) (D0 (M0 (m0 (t0 (A0 (g0 1 [kS 48 v5_18] ?_))))));obtain ⟨H20,hx,h⟩:=bind_some h;refine RS.cl (some 49) (v:=(Value.tuple #[])) 72 _ (za8 hx) (u0 (m0 (t0 (A0 (g0 1 [kS 50 v5_18] ?_)))));obtain ⟨⟨x21,H22⟩,hx,h⟩:=bind_some h;try dsimp only at h
     refine RS.cl (some 51) (v:=(vS x21)) 73 _ (zc8 hx) (g0 2 [kI 3 0,kT 2 x21] (u0 (m0 (C0 ?_))));cases h;exact fun a w hs=>rtR (rS hs)
  ·try dsimp only at h
   refine X0 (z3a (L:=L) (E:=E) (m:=m) (H:=H)) (L.ok hl) 2 ?_;cases h;exact fun a w hq=>bkR (sqR (rtR hq))
noncomputable def B74:Code:=(Tryz.f74.body).getD .skip
def zay:(Sl3×Bool)→Value
 | (r0,r1)=>(vA #[(Sl3.v r0),(vB r1)])
def zbx (H:AH):(Sl3×Bool)→AH:=fun _=>H
noncomputable def z4g (_L:LC) (a0:Sl3) (a1:Bool):Option (Sl3×Bool) :=
 if a1=true then
  none
 else
  some (a0,false)
theorem zbj {L:LC} {m:Nat} {H:AH} {a0:Sl3} {a1:Bool} {r:(Sl3×Bool)} (h:z4g L a0 a1=some r) :
  CallS Tryz.prog (NE.plain 99) m 74 #[(Sl3.v a0),(vB a1)] H (zay r) (zbx H r):=by
 refine CallS.mk (args:=[(Sl3.v a0),(vB a1)]) Tryz.func74 (B:=B74) (by kernel_rfl) (fun E _=>?_);unfold z4g at h;refine t0 (A0 (O0 1 [kL 4 0 0] ([some (68,[(Sl3.v Sl3.nil),(vB false)])]) (u0 (m0 (t0 (A0 (g0 3 [kB 7 a1,kB 6 a1,kS 5 a0] ?_)))))));rcases J1 h with ⟨hp,h⟩ | ⟨hp,h⟩
 ·refine F0 7 true hp ?_;cases h
 ·refine F0 7 false (b_not hp) (O0 6 [kA 12 #[(Sl3.v a0),(vB false)],kB 11 false,kU 10,kU 9,kU 8] ([some (68,[(Sl3.v a0),(vB false)])]) (u0 (m0 (C0 ?_))));cases h;exact fun a w hs=>rtR (rS hs)
noncomputable def B43:Code:=(Tryz.f43.body).getD .skip
def z7n:(Bool×Sl3×AH)→Value
 | (r0,r1,_)=>(vA #[(vB r0),(Sl3.v r1)])
def z98 (_:AH):(Bool×Sl3×AH)→AH:=fun r=>r.2.2
noncomputable def z8v (L:LC) (m:Nat) (H:AH) (a0_0:Bool) (a0_1:Sl3):Option (Bool×Sl3×AH) :=
 (t4 L H a0_0 a0_1).bind fun (x1_0,_) => (z4g L x1_0 false).bind fun (x2_0,x2_1) => (d7 L m H x2_0 x2_1).bind fun (x3_0,x3_1,H4) => some (x3_0,x3_1,H4)
theorem zeq {L:LC} {m:Nat} {H:AH} {a0_0:Bool} {a0_1:Sl3} {r:(Bool×Sl3×AH)} (h:z8v L m H a0_0 a0_1=some r) :
  CallS Tryz.prog (NE.plain 99) m 43 #[(vA #[(vB a0_0),(Sl3.v a0_1)])] H (z7n r) (z98 H r):=by
 refine CallS.mk (args:=[(vA #[(vB a0_0),(Sl3.v a0_1)])]) Tryz.func43 (B:=B43) (by kernel_rfl) (fun E _=>?_);unfold z8v at h;refine t0 (A0 (O0 2 [kL 2 1 0,kL 1 0 0] ([some (26,[(vB a0_0),(Sl3.v a0_1)]),some (26,[(vB false),(Sl3.v Sl3.nil)])]) (u0 (m0 (t0 (A0 (g0 1 [kA 3 #[(vB a0_0),(Sl3.v a0_1)]] ?_)))))));obtain ⟨⟨x1_0,x1_1⟩,hx,h⟩:=bind_some h;try dsimp only at h
 refine RS.cl (some 4) (v:=(vA #[(Sl3.v x1_0),(vB x1_1)])) 22 _ (G5 hx) (g0 1 [kS 5 x1_0] ?_);obtain ⟨⟨x2_0,x2_1⟩,hx,h⟩:=bind_some h;try dsimp only at h
 refine RS.cl (some 6) (v:=(vA #[(Sl3.v x2_0),(vB x2_1)])) 74 _ (zbj hx) ?_;obtain ⟨⟨x3_0,x3_1,H4⟩,hx,h⟩:=bind_some h;try dsimp only at h
 refine RS.cl (some 7) (v:=(vA #[(vB x3_0),(Sl3.v x3_1)])) 75 _ (z17 hx) (O0 1 [] ([some (26,[(vB a0_0),(Sl3.v a0_1)]),some (26,[(vB x3_0),(Sl3.v x3_1)])]) (u0 (m0 (C0 ?_))));cases h;exact fun a w hs=>rtR (rS hs)
noncomputable def B81:Code:=(Tryz.f81.body).getD .skip
def Y6:(ByteArray×AH)→Value
 | (r0,_)=>(vS r0)
def T7 (_:AH):(ByteArray×AH)→AH:=fun r=>r.2
noncomputable def V8 (_L:LC) (rec_sort_written:Nat→AH→Int→Int→ByteArray→Sl3→Option (ByteArray×AH)) (m:Nat) (H:AH) (a0_0 _a0_1:Int) (_a0_2:ByteArray) (a0_3:Sl3):Option (ByteArray×AH) :=
 if a0_0=1 then
  some ((⟨#[66,111,111,108]⟩:ByteArray),H)
 else
  if a0_0=2 then
   some ((⟨#[73,110,116]⟩:ByteArray),H)
  else
   if a0_0=3 then
    none
   else
    if a0_0=4 then
     (idxA 4 a0_3 0).bind fun p1 => (rd (deI .i64) H (Addr.add p1 0)).bind fun x2_0 => (rd (deI .i64) H (Addr.add p1 1)).bind fun x2_1 => (rd deS H (Addr.add p1 2)).bind fun x2_2 => (rd deSl H (Addr.add p1 3)).bind fun x2_3 => (idxA 4 a0_3 1).bind fun p3 => (rd (deI .i64) H (Addr.add p3 0)).bind fun x4_0 => (rd (deI .i64) H (Addr.add p3 1)).bind fun x4_1 => (rd deS H (Addr.add p3 2)).bind fun x4_2 => (rd deSl H (Addr.add p3 3)).bind fun x4_3 => (rec_sort_written (Nat.max m H.next) H x2_0 x2_1 x2_2 x2_3).bind fun (x5,H6) => (strcat (⟨#[40,65,114,114,97,121,32]⟩:ByteArray) x5).bind fun s7 => (strcat s7 (⟨#[32]⟩:ByteArray)).bind fun s8 => (rec_sort_written (Nat.max m H6.next) H6 x4_0 x4_1 x4_2 x4_3).bind fun (x9,H10) => (strcat s8 x9).bind fun s11 => (strcat s11 (⟨#[41]⟩:ByteArray)).bind fun s12 => some (s12,H10)
    else
     none
noncomputable def z4m (L:LC) (n:Nat):(Nat→AH→Int→Int→ByteArray→Sl3→Option (ByteArray×AH)):=Nat.rec (motive:=fun _=>(Nat→AH→Int→Int→ByteArray→Sl3→Option (ByteArray×AH))) (fun _ _ _ _ _ _=>none) (fun _ p=>V8 L p) n
noncomputable def z8x (L:LC) (m:Nat) (H:AH) (a0_0 a0_1:Int) (a0_2:ByteArray) (a0_3:Sl3):Option (ByteArray×AH):=(z4m L L.fuel) m H a0_0 a0_1 a0_2 a0_3
theorem z6y {L:LC} {rec_sort_written:Nat→AH→Int→Int→ByteArray→Sl3→Option (ByteArray×AH)} (hrec_sort_written:∀(m:Nat) (H:AH) (a0_0 a0_1:Int) (a0_2:ByteArray) (a0_3:Sl3) (r:(ByteArray×AH)),rec_sort_written m H a0_0 a0_1 a0_2 a0_3=some r→CallS Tryz.prog (NE.plain 99) m 81 #[(vA #[(vI .i64 a0_0),(vI .i64 a0_1),(vS a0_2),(Sl3.v a0_3)])] H (Y6 r) (T7 H r)) {m:Nat} {H:AH} {a0_0 a0_1:Int} {a0_2:ByteArray} {a0_3:Sl3} {r:(ByteArray×AH)} (h:V8 L rec_sort_written m H a0_0 a0_1 a0_2 a0_3=some r) :
  CallS Tryz.prog (NE.plain 99) m 81 #[(vA #[(vI .i64 a0_0),(vI .i64 a0_1),(vS a0_2),(Sl3.v a0_3)])] H (Y6 r) (T7 H r):=by
 refine CallS.mk (args:=[(vA #[(vI .i64 a0_0),(vI .i64 a0_1),(vS a0_2),(Sl3.v a0_3)])]) Tryz.func81 (B:=B81) (by kernel_rfl) (fun E _=>?_);unfold V8 at h;refine t0 (A0 (O0 2 [kT 2 (⟨#[]⟩:ByteArray),kL 1 0 0] ([some (32,[(vI .i64 a0_0),(vI .i64 a0_1),(vS a0_2),(Sl3.v a0_3)])]) (u0 (m0 (t0 (t0 (A0 (g0 2 [kI 4 a0_0,kL 3 0 0] (u0 ?_)))))))));refine m0 (P0 0 (t0 (A0 (g0 2 [kB 5 (decide (a0_0=1)),kB 6 (decide (a0_0=1))] (u0 (m0 ?_))))));rcases J1 h with ⟨hp,h⟩ | ⟨hp,h⟩
 ·refine B0 5 true (decide_eq_true hp) (E0 (t0 (A0 (g0 1 [kT 2 (⟨#[66,111,111,108]⟩:ByteArray)] (u0 (m0 (C0 ?_)))))));cases h;exact fun a w hs=>bkR (sqR (rtR (rS hs)))
 ·refine B0 5 false (decide_eq_false hp) (D0 (t0 (A0 (g0 2 [kB 7 (decide (a0_0=2)),kB 8 (decide (a0_0=2))] (u0 (m0 ?_))))));rcases J1 h with ⟨hp,h⟩ | ⟨hp,h⟩
  ·refine B0 7 true (decide_eq_true hp) (E0 (t0 (A0 (g0 1 [kT 2 (⟨#[73,110,116]⟩:ByteArray)] (u0 (m0 (C0 ?_)))))));cases h;exact fun a w hs=>bkR (sqR (rtR (rS hs)))
  ·refine B0 7 false (decide_eq_false hp) (D0 (t0 (A0 (g0 2 [kB 9 (decide (a0_0=3)),kB 10 (decide (a0_0=3))] (u0 (m0 ?_))))));rcases J1 h with ⟨hp,h⟩ | ⟨hp,h⟩
   ·refine B0 9 true (decide_eq_true hp) (E0 ?_);cases h
   ·refine B0 9 false (decide_eq_false hp) (D0 (t0 (A0 (g0 2 [kB 16 (decide (a0_0=4)),kB 17 (decide (a0_0=4))] (u0 (m0 ?_))))));rcases J1 h with ⟨hp,h⟩ | ⟨hp,h⟩
    ·refine B0 16 true (decide_eq_true hp) (E0 (t0 ?_));refine C1 [0,1,2,3,7,8,9,10] [0,1,3,7,15,31,63,0,128,384,896,1951,4095,8191,16383] 15 (fun hcl=>?_);refine Q0 0 (some 18) (.loc 0 3) (Q0 1 (some 19) (.val (Sl3.v a0_3)) ?_);obtain ⟨p1,hx,h⟩:=bind_some h;refine Z0 2 (some 20) (vP (some p1)) (Abs.det_idx (s:=a0_3) (k:=.i64) (t:=30) (e:=32) (x:=.tmp 19) (y:=.const (vI .i64 0)) (by kernel_rfl) (by kernel_rfl) (by kernel_rfl) (by kernel_rfl) (by kernel_rfl) hx) ?_;obtain ⟨x2_0,hx0,h⟩:=bind_some h;obtain ⟨x2_1,hx1,h⟩:=bind_some h;obtain ⟨x2_2,hx2,h⟩:=bind_some h;obtain ⟨x2_3,hx3,h⟩:=bind_some h;refine Z0 3 (some 21) (vA #[(vI .i64 x2_0),(vI .i64 x2_1),(vS x2_2),(Sl3.v x2_3)]) (Abs.det_loadA (t:=32) (x:=.tmp 20) (a:=p1) (k:=4) (by kernel_rfl) (by kernel_rfl) (by kernel_rfl) (by kernel_rfl) (G1 (I1 hx0 N1) (G1 (I1 hx1 N1) (G1 (I1 hx2 X1) (G1 (I1 hx3 M1) T2))))) (Q0 7 (some 25) (.loc 0 3) (Q0 8 (some 26) (.val (Sl3.v a0_3)) ?_));obtain ⟨p3,hx,h⟩:=bind_some h;refine Z0 9 (some 27) (vP (some p3)) (Abs.det_idx (s:=a0_3) (k:=.i64) (t:=30) (e:=32) (x:=.tmp 26) (y:=.const (vI .i64 1)) (by kernel_rfl) (by kernel_rfl) (by kernel_rfl) (by kernel_rfl) (by kernel_rfl) hx) ?_;obtain ⟨x4_0,hx0,h⟩:=bind_some h;obtain ⟨x4_1,hx1,h⟩:=bind_some h;obtain ⟨x4_2,hx2,h⟩:=bind_some h;obtain ⟨x4_3,hx3,h⟩:=bind_some h;refine Z0 10 (some 28) (vA #[(vI .i64 x4_0),(vI .i64 x4_1),(vS x4_2),(Sl3.v x4_3)]) (Abs.det_loadA (t:=32) (x:=.tmp 27) (a:=p3) (k:=4) (by kernel_rfl) (by kernel_rfl) (by kernel_rfl) (by kernel_rfl) (G1 (I1 hx0 N1) (G1 (I1 hx1 N1) (G1 (I1 hx2 X1) (G1 (I1 hx3 M1) T2))))) ?_;obtain ⟨⟨x5,H6⟩,hx,h⟩:=bind_some h;try dsimp only at h
     refine DA.on 4 (A1 4 (some 22) true (v:=(vS x5)) 81 #[(vA #[(vI .i64 x2_0),(vI .i64 x2_1),(vS x2_2),(Sl3.v x2_3)])] (hrec_sort_written _ _ _ _ _ _ _ hx) (DA.restart [0,1,2,3,5,7,8,9,10] (by kernel_rfl) ?_));obtain ⟨s7,hx,h⟩:=bind_some h;refine Z0 5 (some 23) (vS s7) (Abs.det_strcat (t:=9) (u:=9) (x:=.const (vS (⟨#[40,65,114,114,97,121,32]⟩:ByteArray))) (y:=.tmp 22) (a:=(⟨#[40,65,114,114,97,121,32]⟩:ByteArray)) (b:=x5) (by kernel_rfl) (by kernel_rfl) (by kernel_rfl) hx) (DA.restart [0,1,2,3,5,6,7,8,9,10] (by kernel_rfl) ?_);obtain ⟨s8,hx,h⟩:=bind_some h;refine Z0 6 (some 24) (vS s8) (Abs.det_strcat (t:=9) (u:=9) (x:=.tmp 23) (y:=.const (vS (⟨#[32]⟩:ByteArray))) (a:=s7) (b:=(⟨#[32]⟩:ByteArray)) (by kernel_rfl) (by kernel_rfl) (by kernel_rfl) hx) ?_;obtain ⟨⟨x9,H10⟩,hx,h⟩:=bind_some h;try dsimp only at h
     refine DA.on 11 (A1 11 (some 29) false (v:=(vS x9)) 81 #[(vA #[(vI .i64 x4_0),(vI .i64 x4_1),(vS x4_2),(Sl3.v x4_3)])] (hrec_sort_written _ _ _ _ _ _ _ hx) ?_);obtain ⟨s11,hx,h⟩:=bind_some h;refine DA.tPx 12 (some 30) (vS s11) (Abs.det_strcat (t:=9) (u:=9) (x:=.tmp 24) (y:=.tmp 29) (a:=s8) (b:=x9) (by kernel_rfl) (by kernel_rfl) (by kernel_rfl) hx) ?_;obtain ⟨s12,hx,h⟩:=bind_some h;refine DA.tPx 13 (some 31) (vS s12) (Abs.det_strcat (t:=9) (u:=9) (x:=.tmp 30) (y:=.const (vS (⟨#[41]⟩:ByteArray))) (a:=s11) (b:=(⟨#[41]⟩:ByteArray)) (by kernel_rfl) (by kernel_rfl) (by kernel_rfl) hx) (N0 14 (some 2) (vS s12) (K0 (m0 (C0 ?_))));cases h;exact fun a w hs=>bkR (sqR (rtR (rS hs)))
    ·refine B0 16 false (decide_eq_false hp) (D0 ?_);cases h
theorem z83 {L:LC}:∀n,(∀(m:Nat) (H:AH) (a0_0 a0_1:Int) (a0_2:ByteArray) (a0_3:Sl3) (r:(ByteArray×AH)),((z4m L n)) m H a0_0 a0_1 a0_2 a0_3=some r→CallS Tryz.prog (NE.plain 99) m 81 #[(vA #[(vI .i64 a0_0),(vI .i64 a0_1),(vS a0_2),(Sl3.v a0_3)])] H (Y6 r) (T7 H r)):=by
 intro n;induction n with
 | zero=>exact (fun _ _ _ _ _ _ _ h=>(Option.some_ne_none _ h.symm).elim)
 | succ n ih=>exact (fun _ _ _ _ _ _ _ h=>z6y (L:=L) ih h)
theorem zc1 {L:LC} {m:Nat} {H:AH} {a0_0 a0_1:Int} {a0_2:ByteArray} {a0_3:Sl3} {r:(ByteArray×AH)} (h:z8x L m H a0_0 a0_1 a0_2 a0_3=some r) :
  CallS Tryz.prog (NE.plain 99) m 81 #[(vA #[(vI .i64 a0_0),(vI .i64 a0_1),(vS a0_2),(Sl3.v a0_3)])] H (Y6 r) (T7 H r) :=
 (z83 _) _ _ _ _ _ _ _ h
noncomputable def B47:Code:=(Tryz.f47.body).getD .skip
def z7p:(ByteArray×Int×AH)→Value
 | (r0,r1,_)=>(Value.tuple #[(vS r0),(vI .i64 r1)])
def z8m (_:AH):(ByteArray×Int×AH)→AH:=fun r=>r.2.2
noncomputable def z8t (L:LC) (m:Nat) (H:AH) (a0_0 a0_1:Int) (a0_2:ByteArray) (a0_3:Sl3):Option (ByteArray×Int×AH) :=
 (z3m L H a0_0 a0_1 a0_2 a0_3).bind fun x1 => if x1=0 then
  (z8x L m H a0_0 a0_1 a0_2 a0_3).bind fun (x2,H3) => some (x2,0,H3)
 else
  none
theorem zeo {L:LC} {m:Nat} {H:AH} {a0_0 a0_1:Int} {a0_2:ByteArray} {a0_3:Sl3} {r:(ByteArray×Int×AH)} (h:z8t L m H a0_0 a0_1 a0_2 a0_3=some r) :
  CallS Tryz.prog (NE.plain 99) m 47 #[(vA #[(vI .i64 a0_0),(vI .i64 a0_1),(vS a0_2),(Sl3.v a0_3)])] H (z7p r) (z8m H r):=by
 refine CallS.mk (args:=[(vA #[(vI .i64 a0_0),(vI .i64 a0_1),(vS a0_2),(Sl3.v a0_3)])]) Tryz.func47 (B:=B47) (by kernel_rfl) (fun E _=>?_);unfold z8t at h;refine t0 (A0 (O0 3 [kI 3 0,kT 2 (⟨#[]⟩:ByteArray),kL 1 0 0] ([some (32,[(vI .i64 a0_0),(vI .i64 a0_1),(vS a0_2),(Sl3.v a0_3)])]) (u0 (m0 (t0 (t0 (A0 (g0 1 [kA 5 #[(vI .i64 a0_0),(vI .i64 a0_1),(vS a0_2),(Sl3.v a0_3)]] ?_))))))));obtain ⟨x1,hx,h⟩:=bind_some h;refine RS.cl (some 6) (v:=(vI .i64 x1)) 80 _ (z7s hx) (g0 1 [kI 4 x1] (u0 (m0 (t0 (A0 (g0 2 [kB 8 (!decide (x1=0)),kI 7 x1] (u0 (m0 ?_))))))));rcases J1 h with ⟨hp,h⟩ | ⟨hp,h⟩
 ·refine B0 8 false (C2 hp) (D0 (M0 (m0 (t0 (A0 (g0 1 [kA 10 #[(vI .i64 a0_0),(vI .i64 a0_1),(vS a0_2),(Sl3.v a0_3)]] ?_))))));obtain ⟨⟨x2,H3⟩,hx,h⟩:=bind_some h;try dsimp only at h
  refine RS.cl (some 11) (v:=(vS x2)) 81 _ (zc1 hx) (g0 2 [kI 3 0,kT 2 x2] (u0 (m0 (C0 ?_))));cases h;exact fun a w hs=>rtR (rS hs)
 ·refine B0 8 true (A2 hp) (E0 ?_);cases h
noncomputable def B48:Code:=(Tryz.f48.body).getD .skip
def z2g:(ByteArray×AH)→Value
 | (r0,_)=>(vS r0)
def z38 (_:AH):(ByteArray×AH)→AH:=fun r=>r.2
noncomputable def z1b (_L:LC) (_m:Nat) (H:AH) (a0:ByteArray) (a1:Int):Option (ByteArray×AH) :=
 if a1=0 then
  none
 else
  if a1=1 then
   some (a0,H)
  else
   none
theorem za0 {L:LC} {m:Nat} {H:AH} {a0:ByteArray} {a1:Int} {r:(ByteArray×AH)} (h:z1b L m H a0 a1=some r) :
  CallS Tryz.prog (NE.plain 99) m 48 #[(vS a0),(vI .i64 a1)] H (z2g r) (z38 H r):=by
 refine CallS.mk (args:=[(vS a0),(vI .i64 a1)]) Tryz.func48 (B:=B48) (by kernel_rfl) (fun E _=>?_);unfold z1b at h;refine t0 (A0 (g0 1 [kT 4 (⟨#[]⟩:ByteArray)] (u0 (m0 (t0 (t0 (A0 (g0 1 [kI 11 a1] (u0 ?_)))))))));refine m0 (P0 0 (t0 (A0 (g0 2 [kB 12 (decide (a1=0)),kB 13 (decide (a1=0))] (u0 (m0 ?_))))));rcases J1 h with ⟨hp,h⟩ | ⟨hp,h⟩
 ·refine B0 12 true (decide_eq_true hp) (E0 ?_);cases h
 ·refine B0 12 false (decide_eq_false hp) (D0 (t0 (A0 (g0 2 [kB 14 (decide (a1=1)),kB 15 (decide (a1=1))] (u0 (m0 ?_))))));rcases J1 h with ⟨hp,h⟩ | ⟨hp,h⟩
  ·refine B0 14 true (decide_eq_true hp) (E0 (t0 (A0 (g0 2 [kT 4 a0,kT 16 a0] (u0 (m0 (C0 ?_)))))));cases h;exact fun a w hs=>bkR (sqR (rtR (rS hs)))
  ·refine B0 14 false (decide_eq_false hp) (D0 ?_);cases h
noncomputable def B28:Code:=(Tryz.f28.body).getD .skip
def zbz:AH→Value
 | _=>(Value.tuple #[])
def zcu (_:AH):AH→AH:=fun r=>r
noncomputable def zr (L:LC):Nat→FuncId→Array Value→AH→Option (Value×AH) :=
 (orO (orF 29 (dcC dcP dcN) fun _ H (a0,_)=>(Q5 L H a0).map fun r=>(P8 r,n9 H r))
  (orO (orF 39 (dcC (dcG (dcC (dcI .i64) (dcC dcB (dcC dcB (dcC dcSl (dcC (dcI .i64) (dcC dcSl (dcC dcS (dcC (dcI .i64) (dcC (dcI .i64) (dcC (dcI .i64) (dcC dcS (dcC dcSl (dcC dcSl (dcC dcSl (dcC dcSl dcN)))))))))))))))) dcN) fun _ H ((a0_0,(a0_1,(a0_2,(a0_3,(a0_4,(a0_5,(a0_6,(a0_7,(a0_8,(a0_9,(a0_10,(a0_11,(a0_12,(a0_13,(a0_14,_))))))))))))))),_)=>(z6 L H a0_0 a0_1 a0_2 a0_3 a0_4 a0_5 a0_6 a0_7 a0_8 a0_9 a0_10 a0_11 a0_12 a0_13 a0_14).map fun r=>(K8 r,v9 H r))
  (orO (orF 40 (dcC dcP (dcC dcS dcN)) fun m H (a0,(a1,_))=>(Y4 L m H a0 a1).map fun r=>(T5 r,n6 H r))
  (orO (orF 41 (dcC dcB dcN) fun _ H (a0,_)=>(a8 L a0).map fun r=>(b9 r,W9 H r))
  (orO (orF 42 (dcC (dcG (dcC dcB (dcC dcSl dcN))) dcN) fun m H ((a0_0,(a0_1,_)),_)=>(z5j L m H a0_0 a0_1).map fun r=>(z7 r,z1s H r))
  (orO (orF 43 (dcC (dcG (dcC dcB (dcC dcSl dcN))) dcN) fun m H ((a0_0,(a0_1,_)),_)=>(z8v L m H a0_0 a0_1).map fun r=>(z7n r,z98 H r))
  (orO (orF 47 (dcC (dcG (dcC (dcI .i64) (dcC (dcI .i64) (dcC dcS (dcC dcSl dcN))))) dcN) fun m H ((a0_0,(a0_1,(a0_2,(a0_3,_)))),_)=>(z8t L m H a0_0 a0_1 a0_2 a0_3).map fun r=>(z7p r,z8m H r))
  (orO (orF 48 (dcC dcS (dcC (dcI .i64) dcN)) fun m H (a0,(a1,_))=>(z1b L m H a0 a1).map fun r=>(z2g r,z38 H r))
  orN))))))))
noncomputable def zal (L:LC) (m:Nat) (H:AH) (a0:Option Addr) (a1_0:Int) (a1_1 a1_2:Bool) (a1_3:Sl3) (a1_4:Int) (a1_5:Sl3) (a1_6:ByteArray) (a1_7 a1_8 a1_9:Int) (a1_10:ByteArray) (a1_11 a1_12:Sl3) (a1_13 a1_14:Sl3):Option AH :=
 byRun Tryz.prog 99 (zr L) m 28 #[(vP a0),(vA #[(vI .i64 a1_0),(vB a1_1),(vB a1_2),(Sl3.v a1_3),(vI .i64 a1_4),(Sl3.v a1_5),(vS a1_6),(vI .i64 a1_7),(vI .i64 a1_8),(vI .i64 a1_9),(vS a1_10),(Sl3.v a1_11),(Sl3.v a1_12),(Sl3.v a1_13),(Sl3.v a1_14)])] H (dcT dcN) fun _ H2=>H2
theorem z9g {L:LC}:OrOK Tryz.prog (NE.plain 99) (zr L):=by
 unfold zr;refine orO_ok (orF_ok fun m H ⟨a0,_⟩ v H' h=>by
  obtain ⟨r,h1,rfl,rfl⟩:=j3 h;exact j9 h1) ?_
 refine orO_ok (orF_ok fun m H ⟨⟨a0_0,⟨a0_1,⟨a0_2,⟨a0_3,⟨a0_4,⟨a0_5,⟨a0_6,⟨a0_7,⟨a0_8,⟨a0_9,⟨a0_10,⟨a0_11,⟨a0_12,⟨a0_13,⟨a0_14,_⟩⟩⟩⟩⟩⟩⟩⟩⟩⟩⟩⟩⟩⟩⟩,_⟩ v H' h=>by
  obtain ⟨r,h1,rfl,rfl⟩:=j3 h;exact z2j h1) ?_
 refine orO_ok (orF_ok fun m H ⟨a0,⟨a1,_⟩⟩ v H' h=>by
  obtain ⟨r,h1,rfl,rfl⟩:=j3 h;exact zf h1) ?_
 refine orO_ok (orF_ok fun m H ⟨a0,_⟩ v H' h=>by
  obtain ⟨r,h1,rfl,rfl⟩:=j3 h;exact z5z h1) ?_
 refine orO_ok (orF_ok fun m H ⟨⟨a0_0,⟨a0_1,_⟩⟩,_⟩ v H' h=>by
  obtain ⟨r,h1,rfl,rfl⟩:=j3 h;exact zcd h1) ?_
 refine orO_ok (orF_ok fun m H ⟨⟨a0_0,⟨a0_1,_⟩⟩,_⟩ v H' h=>by
  obtain ⟨r,h1,rfl,rfl⟩:=j3 h;exact zeq h1) ?_
 refine orO_ok (orF_ok fun m H ⟨⟨a0_0,⟨a0_1,⟨a0_2,⟨a0_3,_⟩⟩⟩⟩,_⟩ v H' h=>by
  obtain ⟨r,h1,rfl,rfl⟩:=j3 h;exact zeo h1) ?_
 refine orO_ok (orF_ok fun m H ⟨a0,⟨a1,_⟩⟩ v H' h=>by
  obtain ⟨r,h1,rfl,rfl⟩:=j3 h;exact za0 h1) ?_
 exact orN_ok
theorem zck {L:LC} {m:Nat} {H:AH} {a0:Option Addr} {a1_0:Int} {a1_1 a1_2:Bool} {a1_3:Sl3} {a1_4:Int} {a1_5:Sl3} {a1_6:ByteArray} {a1_7 a1_8 a1_9:Int} {a1_10:ByteArray} {a1_11 a1_12:Sl3} {a1_13 a1_14:Sl3} {r:AH} (h:zal L m H a0 a1_0 a1_1 a1_2 a1_3 a1_4 a1_5 a1_6 a1_7 a1_8 a1_9 a1_10 a1_11 a1_12 a1_13 a1_14=some r) :
  CallS Tryz.prog (NE.plain 99) m 28 #[(vP a0),(vA #[(vI .i64 a1_0),(vB a1_1),(vB a1_2),(Sl3.v a1_3),(vI .i64 a1_4),(Sl3.v a1_5),(vS a1_6),(vI .i64 a1_7),(vI .i64 a1_8),(vI .i64 a1_9),(vS a1_10),(Sl3.v a1_11),(Sl3.v a1_12),(Sl3.v a1_13),(Sl3.v a1_14)])] H (zbz r) (zcu H r):=by
 obtain ⟨_,H2,rfl,hc⟩:=z4f z9g Tryz.func28 (show Tryz.f28.body=some B28 by kernel_rfl) h;exact hc
noncomputable def B30:Code:=(Tryz.f30.body).getD .skip
def z2u:(ByteArray×AH)→Value
 | (r0,_)=>(vS r0)
def z3f (_:AH):(ByteArray×AH)→AH:=fun r=>r.2
noncomputable def F6 (_L:LC) (m:Nat) (H:AH) (a0:Option Addr):Option (ByteArray×AH) :=
 a0.bind fun q1 => (rd deSl H (Addr.add q1 1)).bind fun x2 => (rd deSl H (Addr.add q1 1)).bind fun x3 => (gOp1 Tryz.prog (opsOf (cfst (csnd B30))) 4 [(6,.val (Sl3.v x2))] deP H).bind fun x4 => (gOp Tryz.prog m (opsOf (cfst (csnd B30))) 10 [(7,.val (vP x4)),(12,.val (vI .i64 (x3.n:Int)))] deS H).bind fun (x5,H6) => some (x5,H6)
theorem z3p {L:LC} {m:Nat} {H:AH} {a0:Option Addr} {r:(ByteArray×AH)} (h:F6 L m H a0=some r) :
  CallS Tryz.prog (NE.plain 99) m 30 #[(vP a0)] H (z2u r) (z3f H r):=by
 refine CallS.mk (args:=[(vP a0)]) Tryz.func30 (B:=B30) (by kernel_rfl) (fun E _=>?_);unfold F6 at h;refine t0 (A0 (g0 1 [kT 2 (⟨#[]⟩:ByteArray)] (u0 (m0 (t0 ?_)))));refine C1 [0,1,2,3,5,6,7,8] [0,1,3,7,15,0,32,96,224,480,1023,2047] 12 (fun hcl=>?_);refine S0 0 (some 3) (vP a0) ?_;obtain ⟨q1,hx,hq1⟩:=bind_some h;subst hx;have h:=hq1;refine S0 1 (some 4) (vP (some q1)) (S0 2 (some 5) (vP (some (Addr.add q1 1))) ?_);obtain ⟨x2,hx,h⟩:=bind_some h;refine Z0 3 (some 6) (Sl3.v x2) (Abs.det_load (t:=78) (x:=.tmp 5) (a:=(Addr.add q1 1)) (by kernel_rfl) (by kernel_rfl) (by kernel_rfl) (by kernel_rfl) (I1 hx M1)) (S0 5 (some 8) (vP (some q1)) (S0 6 (some 9) (vP (some q1)) (S0 7 (some 10) (vP (some (Addr.add q1 1))) ?_)));obtain ⟨x3,hx,h⟩:=bind_some h;refine Z0 8 (some 11) (Sl3.v x3) (Abs.det_load (t:=78) (x:=.tmp 10) (a:=(Addr.add q1 1)) (by kernel_rfl) (by kernel_rfl) (by kernel_rfl) (by kernel_rfl) (I1 hx M1)) (DA.restart [0,1,2,3,5,6,7,8,9] (by kernel_rfl) (S0 9 (some 12) (vI .i64 (x3.n:Int)) ?_));obtain ⟨x4,hx,h⟩:=bind_some h;refine DA.on 4 (B1 (H':=H) 4 (some 7) false (vP x4) (z4r hx Q9 (by kernel_rfl) (by kernel_rfl)) ?_);obtain ⟨⟨x5,H6⟩,hx,h⟩:=bind_some h;try dsimp only at h
 refine DA.on 10 (V0 (H':=H6) 10 (some 13) (vS x5) (z61 hx X1 (by kernel_rfl)) (N0 11 (some 2) (vS x5) (K0 (m0 (C0 ?_)))));cases h;exact fun a w hs=>rtR (rS hs)
noncomputable def B20:Code:=(Tryz.f20.body).getD .skip
def zcm:(ByteArray×Int×AH)→Value
 | (r0,r1,_)=>(Value.tuple #[(vS r0),(vI .i64 r1)])
def zdj (_:AH):(ByteArray×Int×AH)→AH:=fun r=>r.2.2
noncomputable def z7i (L:LC) (m:Nat) (H:AH) (a0_0:Int) (a0_1 a0_2:Bool) (a0_3:Sl3) (a0_4:Int) (a0_5:Sl3) (a0_6:ByteArray) (a0_7 a0_8 a0_9:Int) (a0_10:ByteArray) (a0_11 a0_12:Sl3) (a0_13 a0_14:Sl3) (a1_0 a1_1:Int) (a1_2:ByteArray) (a1_3 a2_0:Sl3) (a2_1 a2_2:Sl3):Option (ByteArray×Int×AH) :=
 (z3t L m H a0_0 a0_1 a0_2 a0_3 a0_4 a0_5 a0_6 a0_7 a0_8 a0_9 a0_10 a0_11 a0_12 a0_13 a0_14 a1_0 a1_1 a1_2 a1_3 a2_0 a2_1 a2_2).bind fun (x1_0,x1_1,x1_2,x1_3,x1_4,x1_5,x1_6,x1_7,x1_8,x1_9,x1_10,x1_11,x1_12,x1_13,x1_14,x2,H3) => if x2=0 then
  (newB 80 [(vP none),(Sl3.v Sl3.nil)] H3).bind fun (p4,H5) => (zal L m H5 (some p4) x1_0 x1_1 x1_2 x1_3 x1_4 x1_5 x1_6 x1_7 x1_8 x1_9 x1_10 x1_11 x1_12 x1_13 x1_14).bind fun H6 => (Q5 L H6 (some p4)).bind fun x7 => if x7 > 1048576 then
   none
  else
   (F6 L m H6 (some p4)).bind fun (x8,H9) => some (x8,0,H9)
 else
  none
theorem zdq {L:LC} {m:Nat} {H:AH} {a0_0:Int} {a0_1 a0_2:Bool} {a0_3:Sl3} {a0_4:Int} {a0_5:Sl3} {a0_6:ByteArray} {a0_7 a0_8 a0_9:Int} {a0_10:ByteArray} {a0_11 a0_12:Sl3} {a0_13 a0_14:Sl3} {a1_0 a1_1:Int} {a1_2:ByteArray} {a1_3 a2_0:Sl3} {a2_1 a2_2:Sl3} {r:(ByteArray×Int×AH)} (h:z7i L m H a0_0 a0_1 a0_2 a0_3 a0_4 a0_5 a0_6 a0_7 a0_8 a0_9 a0_10 a0_11 a0_12 a0_13 a0_14 a1_0 a1_1 a1_2 a1_3 a2_0 a2_1 a2_2=some r) :
  CallS Tryz.prog (NE.plain 99) m 20 #[(vA #[(vI .i64 a0_0),(vB a0_1),(vB a0_2),(Sl3.v a0_3),(vI .i64 a0_4),(Sl3.v a0_5),(vS a0_6),(vI .i64 a0_7),(vI .i64 a0_8),(vI .i64 a0_9),(vS a0_10),(Sl3.v a0_11),(Sl3.v a0_12),(Sl3.v a0_13),(Sl3.v a0_14)]),(vA #[(vI .i64 a1_0),(vI .i64 a1_1),(vS a1_2),(Sl3.v a1_3)]),(vA #[(Sl3.v a2_0),(Sl3.v a2_1),(Sl3.v a2_2)])] H (zcm r) (zdj H r):=by
 refine CallS.mk (args:=[(vA #[(vI .i64 a0_0),(vB a0_1),(vB a0_2),(Sl3.v a0_3),(vI .i64 a0_4),(Sl3.v a0_5),(vS a0_6),(vI .i64 a0_7),(vI .i64 a0_8),(vI .i64 a0_9),(vS a0_10),(Sl3.v a0_11),(Sl3.v a0_12),(Sl3.v a0_13),(Sl3.v a0_14)]),(vA #[(vI .i64 a1_0),(vI .i64 a1_1),(vS a1_2),(Sl3.v a1_3)]),(vA #[(Sl3.v a2_0),(Sl3.v a2_1),(Sl3.v a2_2)])]) Tryz.func20 (B:=B20) (by kernel_rfl) (fun E _=>?_);unfold z7i at h;refine t0 (A0 (O0 5 [kI 7 0,kT 6 (⟨#[]⟩:ByteArray),kL 5 2 0,kL 4 1 0,kL 3 0 0] ([some (36,[(vI .i64 a0_0),(vB a0_1),(vB a0_2),(Sl3.v a0_3),(vI .i64 a0_4),(Sl3.v a0_5),(vS a0_6),(vI .i64 a0_7),(vI .i64 a0_8),(vI .i64 a0_9),(vS a0_10),(Sl3.v a0_11),(Sl3.v a0_12),(Sl3.v a0_13),(Sl3.v a0_14)]),some (32,[(vI .i64 a1_0),(vI .i64 a1_1),(vS a1_2),(Sl3.v a1_3)]),some (62,[(Sl3.v a2_0),(Sl3.v a2_1),(Sl3.v a2_2)])]) (u0 (m0 (t0 (A0 (g0 3 [kA 14 #[(Sl3.v a2_0),(Sl3.v a2_1),(Sl3.v a2_2)],kA 13 #[(vI .i64 a1_0),(vI .i64 a1_1),(vS a1_2),(Sl3.v a1_3)],kA 12 #[(vI .i64 a0_0),(vB a0_1),(vB a0_2),(Sl3.v a0_3),(vI .i64 a0_4),(Sl3.v a0_5),(vS a0_6),(vI .i64 a0_7),(vI .i64 a0_8),(vI .i64 a0_9),(vS a0_10),(Sl3.v a0_11),(Sl3.v a0_12),(Sl3.v a0_13),(Sl3.v a0_14)]] ?_)))))));obtain ⟨⟨x1_0,x1_1,x1_2,x1_3,x1_4,x1_5,x1_6,x1_7,x1_8,x1_9,x1_10,x1_11,x1_12,x1_13,x1_14,x2,H3⟩,hx,h⟩:=bind_some h;try dsimp only at h
 refine RS.cl (some 15) (v:=(Value.tuple #[(vA #[(vI .i64 x1_0),(vB x1_1),(vB x1_2),(Sl3.v x1_3),(vI .i64 x1_4),(Sl3.v x1_5),(vS x1_6),(vI .i64 x1_7),(vI .i64 x1_8),(vI .i64 x1_9),(vS x1_10),(Sl3.v x1_11),(Sl3.v x1_12),(Sl3.v x1_13),(Sl3.v x1_14)]),(vI .i64 x2)])) 19 _ (z7t hx) (O0 6 [kI 9 x2,kL 8 3 0,kI 17 x2,kA 16 #[(vI .i64 x1_0),(vB x1_1),(vB x1_2),(Sl3.v x1_3),(vI .i64 x1_4),(Sl3.v x1_5),(vS x1_6),(vI .i64 x1_7),(vI .i64 x1_8),(vI .i64 x1_9),(vS x1_10),(Sl3.v x1_11),(Sl3.v x1_12),(Sl3.v x1_13),(Sl3.v x1_14)],(11,.val (Value.tuple #[(vA #[(vI .i64 x1_0),(vB x1_1),(vB x1_2),(Sl3.v x1_3),(vI .i64 x1_4),(Sl3.v x1_5),(vS x1_6),(vI .i64 x1_7),(vI .i64 x1_8),(vI .i64 x1_9),(vS x1_10),(Sl3.v x1_11),(Sl3.v x1_12),(Sl3.v x1_13),(Sl3.v x1_14)]),(vI .i64 x2)]))] ([some (36,[(vI .i64 a0_0),(vB a0_1),(vB a0_2),(Sl3.v a0_3),(vI .i64 a0_4),(Sl3.v a0_5),(vS a0_6),(vI .i64 a0_7),(vI .i64 a0_8),(vI .i64 a0_9),(vS a0_10),(Sl3.v a0_11),(Sl3.v a0_12),(Sl3.v a0_13),(Sl3.v a0_14)]),some (32,[(vI .i64 a1_0),(vI .i64 a1_1),(vS a1_2),(Sl3.v a1_3)]),some (62,[(Sl3.v a2_0),(Sl3.v a2_1),(Sl3.v a2_2)]),some (36,[(vI .i64 x1_0),(vB x1_1),(vB x1_2),(Sl3.v x1_3),(vI .i64 x1_4),(Sl3.v x1_5),(vS x1_6),(vI .i64 x1_7),(vI .i64 x1_8),(vI .i64 x1_9),(vS x1_10),(Sl3.v x1_11),(Sl3.v x1_12),(Sl3.v x1_13),(Sl3.v x1_14)])]) (u0 (m0 (t0 (t0 (A0 (g0 2 [kB 19 (!decide (x2=0)),kI 18 x2] (u0 (m0 ?_)))))))));rcases J1 h with ⟨hp,h⟩ | ⟨hp,h⟩
 ·refine B0 19 false (C2 hp) (D0 (M0 (m0 (t0 (A0 ?_)))));obtain ⟨⟨p4,H5⟩,hx,h⟩:=bind_some h;try dsimp only at h
  refine T0 (H':=H5) (some 10) (vP (some p4)) (Abs.run_newB (by kernel_rfl) hx) (u0 (m0 (t0 (A0 (g0 1 [kA 21 #[(vI .i64 x1_0),(vB x1_1),(vB x1_2),(Sl3.v x1_3),(vI .i64 x1_4),(Sl3.v x1_5),(vS x1_6),(vI .i64 x1_7),(vI .i64 x1_8),(vI .i64 x1_9),(vS x1_10),(Sl3.v x1_11),(Sl3.v x1_12),(Sl3.v x1_13),(Sl3.v x1_14)]] ?_)))));obtain ⟨H6,hx,h⟩:=bind_some h;refine RS.cl (some 22) (v:=(Value.tuple #[])) 28 _ (zck hx) (u0 (m0 (t0 (t0 (A0 ?_)))));obtain ⟨x7,hx,h⟩:=bind_some h;refine RS.cl (some 23) (v:=(vI .i64 x7)) 29 _ (j9 hx) (g0 1 [kB 24 (decide (x7 > 1048576))] (u0 (m0 ?_)));rcases J1 h with ⟨hp,h⟩ | ⟨hp,h⟩
  ·refine B0 24 true (decide_eq_true hp) (E0 ?_);cases h
  ·refine B0 24 false (decide_eq_false hp) (D0 (M0 (m0 (t0 (A0 ?_)))));obtain ⟨⟨x8,H9⟩,hx,h⟩:=bind_some h;try dsimp only at h
   refine RS.cl (some 25) (v:=(vS x8)) 30 _ (z3p hx) (g0 2 [kI 7 0,kT 6 x8] (u0 (m0 (C0 ?_))));cases h;exact fun a w hs=>rtR (rS hs)
 ·refine B0 19 true (A2 hp) (E0 ?_);cases h
end Go.Proofs.YtiickgadpbifbaaGreatDoor.Aw
